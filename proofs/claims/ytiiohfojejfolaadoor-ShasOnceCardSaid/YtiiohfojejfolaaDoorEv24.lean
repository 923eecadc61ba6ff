/-
  A function's contract from its body.
-/
import Derived.Test.YtiiohfojejfolaaDoorEv23
set_option linter.unusedVariables false
set_option linter.unusedSimpArgs false
namespace Go.Ev
open Go

def okRes (P : Program) : ResultVar → Bool
  | .tmp _ => true
  | .cell _ t => match sizeT P t with
    | some n => decide (n ≠ 0) && (aggT P t || n == 1)
    | none => false

def okFn (P : Program) (fn : Func) (afn : AFn) : Bool :=
  match fn.body with
  | some c => okCode fn.ntmps c afn.code && fn.results.toList.all (okRes P)
  | none => false

section
variable {P : Program} {w : World} {F : Frz} {μ : Mu} {G : Globals} {C : FuncId → Option Contract}

def resOne (tmps : Array Value) : ResultVar → Sem Value := fun
  | .tmp t => pure (tmps.getD t undef)
  | .cell a t => do loadVar t (← asAddr (tmps.getD a undef))

theorem readAll_run {s : St} {a : Go.Act} {n : Nat} (hR : StRel n F μ s a w) : ∀ {rvs : List ResultVar} {rs : List ARes} {vs : List V}, prepRes P rvs = some rs → rvs.all (okRes P) = true → readAll s rs = some vs →
    ∃ us, (rvs.mapM (resOne a.tmps) : Sem (List Value)).run P w = .ok us w ∧ rels F μ vs us
  | [], rs, vs, hp, _, hr => by
    simp only [prepRes] at hp; cases hp
    simp only [readAll] at hr; cases hr
    exact ⟨[], by simp, by simp [rels]⟩
  | .tmp t :: r, rs, vs, hp, hok, hr => by
    simp only [prepRes, Option.map_eq_some_iff] at hp
    obtain ⟨rs', hp', rfl⟩ := hp
    simp only [List.all_cons, Bool.and_eq_true] at hok
    simp only [readAll, ARes.read] at hr
    split at hr <;> cases hr
    rename_i v vs' hv hvs
    cases hv
    obtain ⟨us, h1, h2⟩ := readAll_run hR hp' hok.2 hvs
    refine ⟨a.tmps.getD t undef :: us, ?_, ?_⟩
    · simp only [List.mapM_cons, Sem.run_bind, resOne, Sem.run_pure, Result.andThen_ok, h1]
    · exact ⟨_, _, rfl, hR.tm t, h2⟩
  | .cell x t :: r, rs, vs, hp, hok, hr => by
    simp only [prepRes] at hp
    split at hp <;> cases hp
    rename_i m rs' hn hp'
    simp only [List.all_cons, Bool.and_eq_true, okRes, hn, decide_eq_true_eq, Bool.or_eq_true, beq_iff_eq] at hok
    obtain ⟨⟨h0, hag⟩, hok'⟩ := hok
    simp only [readAll, ARes.read] at hr
    split at hr <;> cases hr
    rename_i v vs' hv hvs
    obtain ⟨us, h1, h2⟩ := readAll_run hR hp' hok' hvs
    have hx := hR.tm x
    split at hv <;> first | (cases hv; done) | skip
    rename_i k off hk
    rw [hk] at hx
    simp only [rel] at hx
    obtain ⟨b, hb, hu⟩ := hx
    split at hv <;> first | (cases hv; done) | skip
    rename_i cs hcs
    split at hv <;> cases hv
    rename_i hl
    obtain ⟨us0, ty, hw, hc, _⟩ := hR.inv.cells hcs hb
    have hc' := rels_take m (rels_drop off hc)
    have hlen := rels_length hc'
    have h1' : aggT P t = false → m = 1 := fun h => hag.resolve_left (by simp [h])
    have hrun := run_loadVar' (P := P) (w := w) hn (b := b) (o := off) (us := (us0.drop off).take m) (by rw [← hlen, hl]) (fun j v hj => by
      rw [cell_of_heap hw]; exact mem_of_take_drop hj) h1'
    have hrel := rel_mk (agg := aggT P t) hc' (fun h => h0 (by rw [← hl, h]; rfl))
    refine ⟨_ :: us, ?_, ⟨_, _, rfl, hrel, h2⟩⟩
    simp only [List.mapM_cons, Sem.run_bind, resOne, hu, asAddr, Sem.run_pure, Result.andThen_ok, hrun, h1]

theorem rels_thins : ∀ {vs : List V} {us : List Value}, rels F μ vs us → rels F μ (vs.map V.thin) us
  | [], _, h => h
  | v :: r, us, h => by
    simp only [List.map_cons, rels] at h ⊢
    obtain ⟨u, us', hu, h1, h2⟩ := h
    exact ⟨u, us', hu, rel_thin h1, rels_thins h2⟩

theorem rels_thins2 : ∀ {vs : List V} {us : List Value}, rels F μ vs us → rels F μ (vs.map fun v => match v with | .agg cs => .agg (cs.map V.thin) | v => v.thin) us
  | [], _, h => h
  | v :: r, us, h => by
    simp only [List.map_cons, rels] at h ⊢
    obtain ⟨u, us', hu, h1, h2⟩ := h
    refine ⟨u, us', hu, ?_, rels_thins2 h2⟩
    split
    · simp only [rel] at h1 ⊢
      obtain ⟨us, hu, hc⟩ := h1
      exact ⟨us, hu, rels_thins hc⟩
    · exact rel_thin h1

theorem rel_thinAll {v : V} {u : Value} (h : rel F μ v u) : rel F μ v.thinAll u := by
  unfold V.thinAll
  split
  · simp only [rel] at h ⊢
    obtain ⟨us, hu, hc⟩ := h
    exact ⟨us, hu, rels_thins hc⟩
  · simp only [rel] at h ⊢
    obtain ⟨us, hu, hc⟩ := h
    exact ⟨us, hu, rels_thins2 hc⟩
  · exact rel_thin h

theorem rel_single {vs : List V} {us : List Value} (h : rels F μ vs us) : rel F μ (single vs) (if h : us.toArray.size = 1 then us.toArray[0] else .tuple us.toArray) := by
  have hl := rels_length h
  unfold single
  split
  · rename_i v
    obtain ⟨u, us', rfl, h1, h2⟩ := h
    simp only [rels] at h2
    subst h2
    simpa using h1
  · rename_i hn
    have : us.length ≠ 1 := fun h1 => by
      rw [← hl] at h1
      obtain ⟨v, hv⟩ := List.length_eq_one_iff.1 h1
      exact hn v hv
    simp only [List.size_toArray, this, dif_neg, not_false_iff]
    exact ⟨us, rfl, h⟩

theorem backObjs_spec {σ : Store} : ∀ {n i : Nat} {os : List Obj}, backObjs σ i n = some os → os.length = n ∧ ∀ (j : Nat) (o : Obj), os[j]? = some o → σ.get (.arg (i + j)) = some o
  | 0, i, os, h => by simp only [backObjs] at h; cases h; exact ⟨rfl, fun j o ho => by simp at ho⟩
  | n + 1, i, os, h => by
    simp only [backObjs] at h
    split at h <;> cases h
    rename_i o r ho hr
    obtain ⟨h1, h2⟩ := backObjs_spec hr
    refine ⟨by simp [h1], fun j o' hj => ?_⟩
    cases j with
    | zero => simp at hj; subst hj; simpa using ho
    | succ j =>
      simp at hj
      have := h2 j o' hj
      rw [← this]
      congr 2
      omega

theorem objsKeys_mem : ∀ {os : List Obj} {o : Obj} {k : Key}, o ∈ os → k ∈ o.keys → k ∈ objsKeys os
  | [], _, _, h, _ => by simp at h
  | o' :: r, o, k, h, hk => by
    simp only [objsKeys, List.mem_append]
    rcases List.mem_cons.1 h with rfl | h
    · exact .inl hk
    · exact .inr (objsKeys_mem h hk)

def muBack (μ : Mu) (n : Nat) (fresh : List (Key × Obj)) : Mu := fun k =>
  match k with
  | .arg i => if i < n then μ (.arg i) else match fresh[i - n]? with | some p => μ p.1 | none => none
  | .loc .. => none

theorem finish_ok {afn : AFn} {n : Nat} {s : St} {r : V} {os ns : List Obj} (h : afn.finish n s = some (r, os, ns)) (hI : Inv F μ s.st w) :
    ∃ vs, readAll s afn.results = some vs ∧ os.length = n ∧ ∃ μ2 : Mu, Inv F μ2 (argObjs 0 (os ++ ns)) w ∧ (∀ k h, μ2 k = some h → ∃ k', μ k' = some h) ∧ (∀ i, i < n → μ2 (.arg i) = μ (.arg i)) ∧
      ∀ u, rel F μ (single vs) u → rel F μ2 r u := by
  unfold AFn.finish at h
  split at h <;> first | (cases h; done) | skip
  rename_i vs os0 hvs hos
  generalize hrr : (if afn.keep = true then single vs else (single vs).thinAll) = rr at h
  dsimp only at h
  split at h <;> first | (cases h; done) | skip
  rename_i l rd hl
  split at h <;> first | (cases h; done) | skip
  rename_i hchk
  simp only [Bool.and_eq_true, decide_eq_true_eq] at hchk
  obtain ⟨⟨c1, c2⟩, c3⟩ := hchk
  obtain ⟨hlen, hback⟩ := backObjs_spec hos
  have hreach := reach_run (σ := s.st) 64 _ [] hl (by simp)
  generalize hfr : (l.filter fun p => isLoc p.1) = fresh at h
  have hfm : ∀ p ∈ fresh, p ∈ l ∧ isLoc p.1 = true := fun p hp => by rw [← hfr] at hp; simpa using hp
  have hnd : (fresh.map (·.1)).Nodup := by
    rw [← hfr]
    exact List.Nodup.sublist (List.Sublist.map _ List.filter_sublist) c3
  have hget : ∀ (i : Nat) (p : Key × Obj), fresh[i]? = some p → s.st.get p.1 = some p.2 := fun i p hp => hreach p (hfm p (List.mem_of_getElem? hp)).1
  have hk : ∀ k hd, k ∈ l.map (·.1) → μ k = some hd → muBack μ n fresh (freshKey n (fresh.map (·.1)) k) = some hd := fun k hd hkm hμ => by
    obtain ⟨p, hp, rfl⟩ := List.mem_map.1 hkm
    have hb := List.all_eq_true.1 c2 p hp
    simp only [Bool.and_eq_true] at hb
    cases hpk : p.1 with
    | arg i =>
      rw [hpk] at hb hμ
      simp only [Key.below, decide_eq_true_eq] at hb
      simp only [freshKey, muBack, hb.2, if_true]
      exact hμ
    | loc sl j =>
      have hpf : p ∈ fresh := by rw [← hfr]; simp [hp, hpk, isLoc]
      rw [hpk] at hμ
      obtain ⟨i, hi⟩ := findIdxKey_mem (k := .loc sl j) (ks := fresh.map (·.1)) 0 (List.mem_map.2 ⟨p, hpf, hpk⟩)
      have := (findIdxKey_spec hi).2
      simp only [Nat.sub_zero, List.getElem?_map, Option.map_eq_some_iff] at this
      obtain ⟨q, hq, hqk⟩ := this
      have hni : ¬ n + i < n := by omega
      have hsub : n + i - n = i := by omega
      simp only [freshKey, hi, muBack, hni, if_false, hsub, hq, hqk]
      exact hμ
  have hall : ∀ k, k ∈ rr.keys ∨ k ∈ objsKeys os0 → k ∈ l.map (·.1) := fun k hkk => by
    have := List.all_eq_true.1 c1 k (List.mem_append.2 hkk)
    simpa using this
  have hlk : ∀ p ∈ l, ∀ k ∈ p.2.keys, k ∈ l.map (·.1) := fun p hp k hkk => by
    have hb := List.all_eq_true.1 c2 p hp
    simp only [Bool.and_eq_true] at hb
    have := List.all_eq_true.1 hb.1 k hkk
    simpa using this
  cases h
  refine ⟨vs, hvs, by simp [hlen], muBack μ n fresh, ⟨hI.frozen, fun k o hko => ?_, fun k hd hkd => ?_, fun k k' hd hd' hne hkd hkd' => ?_⟩, fun k hd hkd => ?_, fun i hi => by simp [muBack, hi], fun u hu => ?_⟩
  · cases k with
    | loc sl j => rw [argObjs_get] at hko; cases hko
    | arg j =>
      rw [argObjs_get0] at hko
      by_cases hj : j < n
      · rw [List.getElem?_append_left (by simp [hlen, hj])] at hko
        simp only [List.getElem?_map, Option.map_eq_some_iff] at hko
        obtain ⟨o0, ho0, rfl⟩ := hko
        have hb := hback j o0 ho0
        rw [Nat.zero_add] at hb
        obtain ⟨hd, h1, h2⟩ := hI.dom1 _ _ hb
        refine ⟨hd, by simp [muBack, hj, h1], objRel_ren (fun k h' hkk hμ => hk k h' (hall k (.inr (objsKeys_mem (List.mem_of_getElem? ho0) hkk))) hμ) h2⟩
      · rw [List.getElem?_append_right (by simp [hlen]; omega)] at hko
        simp only [List.length_map, hlen, List.getElem?_map, Option.map_eq_some_iff] at hko
        obtain ⟨p, hp, rfl⟩ := hko
        obtain ⟨hd, h1, h2⟩ := hI.dom1 _ _ (hget _ p hp)
        refine ⟨hd, by simp [muBack, hj, hp, h1], objRel_ren (fun k h' hkk hμ => hk k h' (hlk p (hfm p (List.mem_of_getElem? hp)).1 k hkk) hμ) h2⟩
  · cases k with
    | loc sl j => cases hkd
    | arg j =>
      rw [argObjs_get0]
      simp only [muBack] at hkd
      by_cases hj : j < n
      · have : j < (os0.map (Obj.ren (freshKey n (fresh.map (·.1))))).length := by simp [hlen, hj]
        rw [List.getElem?_append_left this]
        exact ⟨_, List.getElem?_eq_getElem this⟩
      · rw [if_neg hj] at hkd
        rw [List.getElem?_append_right (by simp [hlen]; omega)]
        split at hkd
        · rename_i p hp
          exact ⟨_, by simp [hlen, hp]; rfl⟩
        · cases hkd
  · cases k with
    | loc => cases hkd
    | arg i =>
      cases k' with
      | loc => cases hkd'
      | arg j =>
        have hij : i ≠ j := fun he => hne (by rw [he])
        simp only [muBack] at hkd hkd'
        by_cases hi : i < n
        · rw [if_pos hi] at hkd
          by_cases hj : j < n
          · rw [if_pos hj] at hkd'
            exact hI.apart _ _ _ _ hne hkd hkd'
          · rw [if_neg hj] at hkd'
            split at hkd' <;> first | (cases hkd'; done) | skip
            rename_i p hp
            have := (hfm p (List.mem_of_getElem? hp)).2
            exact hI.apart _ _ _ _ (fun he => by rw [← he] at this; cases this) hkd hkd'
        · rw [if_neg hi] at hkd
          split at hkd <;> first | (cases hkd; done) | skip
          rename_i p hp
          have hpl := (hfm p (List.mem_of_getElem? hp)).2
          by_cases hj : j < n
          · rw [if_pos hj] at hkd'
            exact hI.apart _ _ _ _ (fun he => by rw [he] at hpl; cases hpl) hkd hkd'
          · rw [if_neg hj] at hkd'
            split at hkd' <;> first | (cases hkd'; done) | skip
            rename_i q hq
            refine hI.apart _ _ _ _ (fun he => ?_) hkd hkd'
            have := nodup_idx hnd (i := i - n) (j := j - n) (k := p.1) (by simp [hp]) (by simp [hq, he])
            omega
  · cases k with
    | loc => cases hkd
    | arg i =>
      simp only [muBack] at hkd
      split at hkd
      · exact ⟨_, hkd⟩
      · split at hkd
        · exact ⟨_, hkd⟩
        · cases hkd
  · refine rel_ren _ u (fun k h' hkk hμ => hk k h' (hall k (.inl hkk)) hμ) ?_
    rw [← hrr]
    split
    · exact hu
    · exact rel_thinAll hu

theorem argTm_at : ∀ (args : List V) (us : List Value) (k i : Nat), rels F μ args us → (argTm k args).at i = .undef ∨ (k ≤ i ∧ ∃ u, us[i - k]? = some u ∧ rel F μ ((argTm k args).at i) u)
  | [], _, _, _, _ => .inl rfl
  | v :: r, us, k, i, h => by
    obtain ⟨u, us', rfl, h1, h2⟩ := h
    simp only [argTm, Tm.at_cons]
    by_cases hk : k = i
    · subst hk; rw [if_pos rfl]; exact .inr ⟨Nat.le_refl _, u, by simp, h1⟩
    · rw [if_neg hk]
      rcases argTm_at r us' (k + 1) i h2 with h' | ⟨hl, u', hu, hr⟩
      · exact .inl h'
      · refine .inr ⟨by omega, u', ?_, hr⟩
        have : i - k = i - (k + 1) + 1 := by omega
        rw [this]
        simpa using hu

theorem argTm_rel {args : List V} {us : List Value} (h : rels F μ args us) (m : Nat) : TmRel F μ (argTm 0 args) (us.toArray ++ Array.replicate m undef) := fun i => by
  rcases argTm_at args us 0 i h with h' | ⟨_, u, hu, hr⟩
  · rw [h']; simp [rel]
  · rw [Nat.sub_zero] at hu
    have hlt : i < us.length := (List.getElem?_eq_some_iff.1 hu).1
    have : (us.toArray ++ Array.replicate m undef).getD i undef = u := by
      rw [Array.getD_eq_getD_getElem?, Array.getElem?_append_left (by simpa using hlt)]
      simp [hu]
    rw [this]
    exact hr

/-- **A function keeps the contract that its body computes.** -/
theorem fn_holds (hS : Sound P G C) (hM : P.follows .mixedOrders = true) (fuel : Nat) {hints : Hints} {keep : Bool} {f : FuncId} {fn : Func} {afn : AFn} (hf : P.funcs[f]? = some fn)
    (hp : prepFn P G hints keep fn = some afn) (hok : okFn P fn afn = true) : Holds P G f (AFn.run fuel C afn) := by
  intro args objs r os ns hrun hlen F μ w us hG hI hus
  unfold prepFn at hp
  split at hp <;> first | (cases hp; done) | skip
  rename_i c hb
  split at hp <;> cases hp
  rename_i ac rs hc hrs
  simp only [okFn, hb, Bool.and_eq_true] at hok
  have hlu := rels_length hus
  have main : ∀ (ex : Ex) (s : St), (ex = .normal ∨ ex = .ret) → evalCode C fuel ac ⟨argTm 0 args, argObjs 0 objs⟩ = some (ex, s) →
      AFn.finish ⟨fn.ntmps, fn.params.size + fn.nfree, rs, ac, keep⟩ objs.length s = some (r, os, ns) →
      Calls P f us.toArray w fun e w' => ∃ u F' μ', e = .returned u ∧ Inv F' μ' (argObjs 0 (os ++ ns)) w' ∧ Ext μ F w μ' F' w' ∧ μ.le μ' ∧ rel F' μ' r u := by
    intro ex s hex hev hfin
    refine calls_of_wp hf hb (code_wp hS hM fuel c hc hok.1 hev ⟨hI, argTm_rel hus _, rfl, by simp; omega⟩ hG fun F' μ' a' w' hx hm hR' => ?_)
    · obtain ⟨vs, hvs, hln, μ2, i1, i2, i3, i4⟩ := finish_ok hfin hR'.inv
      obtain ⟨us', hrun', hrel⟩ := readAll_run hR' hrs hok.2 hvs
      have hres : (results fn a'.tmps).run P w' = .ok (if h : us'.toArray.size = 1 then us'.toArray[0] else .tuple us'.toArray) w' := by
        change (fn.results.mapM (resOne a'.tmps) >>= fun vs => pure (if h : vs.size = 1 then vs[0] else .tuple vs)).run P w' = _
        rw [Array.mapM_eq_mapM_toList]
        simp only [Sem.run_bind, Sem.run_map, hrun', Result.andThen_ok, Sem.run_pure]
      have fin : a'.defers = [] ∧ ∃ v, (results fn a'.tmps).run P w' = .ok v w' ∧ ∃ u F'' μ'', Ending.returned v = .returned u ∧ Inv F'' μ'' (argObjs 0 (os ++ ns)) w' ∧ Ext μ F w μ'' F'' w' ∧ μ.le μ'' ∧ rel F'' μ'' r u := by
        refine ⟨hR'.dn, _, hres, _, F', μ2, rfl, i1, ⟨hx.le, hx.size, hx.keep, hx.os, hx.out, hx.fresh, fun k hd hk => ?_⟩, fun k hd hk => ?_, i4 _ (rel_single hrel)⟩
        · obtain ⟨k', hk'⟩ := i2 k hd hk
          exact hx.hd k' hd hk'
        · obtain ⟨o, ho⟩ := hI.dom2 k hd hk
          cases k with
          | loc => rw [argObjs_get] at ho; cases ho
          | arg i =>
            rw [argObjs_get0] at ho
            have hi : i < objs.length := (List.getElem?_eq_some_iff.1 ho).1
            obtain ⟨hd', h1, h2⟩ := hm i hd hk
            exact ⟨hd', by rw [i3 i hi]; exact h1, h2⟩
      rcases hex with rfl | rfl <;> exact fin
  simp only [AFn.run] at hrun
  split at hrun <;> first | (cases hrun; done) | skip
  split at hrun <;> first | (cases hrun; done) | skip
  · rename_i s hev; exact main _ s (.inl rfl) hev hrun
  · rename_i s hev; exact main _ s (.inr rfl) hev hrun

end
end Go.Ev
