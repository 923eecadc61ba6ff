/-
  A call, by the callee's contract.
-/
import Derived.Test.YtiiohfojejfolaaDoorEv18
set_option linter.unusedVariables false
set_option linter.unusedSimpArgs false
namespace Go.Ev
open Go

section
variable {P : Program} {w : World} {F : Frz} {μ : Mu} {σ : Store} {G : Globals} {C : FuncId → Option Contract}

/-- All memory as it is. -/
def allF (w : World) : Frz := fun a => if a.spot = none then (match w.cell? a with | some u => if u.oneCell' = true then some u else none | none => none) else none

theorem allF_some {a : Addr} {u : Value} (h : allF w a = some u) : a.spot = none ∧ w.cell? a = some u ∧ u.oneCell' = true := by
  unfold allF at h
  split at h
  · rename_i hs
    split at h
    · rename_i v hv
      split at h
      · rename_i h1; cases h; exact ⟨hs, hv, h1⟩
      · cases h
    · cases h
  · cases h

theorem allF_of {a : Addr} {u : Value} (h1 : a.spot = none) (h2 : w.cell? a = some u) (h3 : u.oneCell' = true) : allF w a = some u := by
  simp [allF, h1, h2, h3]

theorem le_allF (hI : Inv F μ σ w) : F.le (allF w) := fun a u h => by
  obtain ⟨h1, h2, h3⟩ := hI.frozen a u h
  exact allF_of h1 h2 h3

theorem inv_allF : Inv (allF w) noMu (argObjs 0 []) w where
  frozen := fun a u h => allF_some h
  dom1 := fun k o h => by simp [argObjs, Store.get] at h
  dom2 := fun k h hk => by simp [noMu] at hk
  apart := fun k k' h h' _ hk => by simp [noMu] at hk

theorem lends_run (hI : Inv F μ σ w) : ∀ {args args' : List V} {us : List Value} {l l' : List Key}, (lends args).run σ l = some (args', l') → rels F μ args us → rels (allF w) μ args' us ∧ (args.any isView = false → rels F μ args' us)
  | [], args', us, l, l', h, hr => by
    simp only [lends, Act.run, Option.some.injEq, Prod.mk.injEq] at h
    rw [← h.1]
    simp only [rels] at hr ⊢
    exact ⟨hr, fun _ => hr⟩
  | v :: r, args', us, l, l', h, hr => by
    obtain ⟨u, us', rfl, hv, hr'⟩ := hr
    simp only [lends] at h
    obtain ⟨v', l1, h1, h⟩ := bind_run h
    obtain ⟨r', l2, h2, h⟩ := bind_run h
    simp only [Act.run, Option.some.injEq, Prod.mk.injEq] at h
    obtain ⟨g1, g2⟩ := lends_run hI h2 hr'
    rw [← h.1]
    have key : rel (allF w) μ v' u ∧ (isView v = false → rel F μ v' u) := by
      unfold lend at h1
      split at h1
      · rename_i k e off len c
        split at h1
        · rename_i he
          obtain ⟨rfl, hlc⟩ := he
          obtain ⟨xs, l3, h3, h4⟩ := bind_run h1
          simp only [Act.run, Option.some.injEq, Prod.mk.injEq] at h4
          rw [← h4.1]
          refine ⟨?_, by simp [isView]⟩
          unfold source at h3
          simp only [and_self, if_true] at h3
          obtain ⟨o, ho, h3⟩ := get_run h3
          cases o <;> simp only at h3 <;> try (exact (fail_run h3).elim)
          rename_i cs
          split at h3
          · rename_i hc
            simp only [Act.run, Option.some.injEq, Prod.mk.injEq] at h3
            obtain ⟨hxs, _⟩ := h3
            simp only [rel] at hv
            obtain ⟨b, hb, rfl⟩ := hv
            obtain ⟨blk, ty, hw, hcs, _⟩ := hI.cells ho hb
            have hrt := rels_take len (rels_drop off hcs)
            have hcellsEq : ∀ (l : List V), l.all (fun c => c.frozen && c.isCell) = true → l.flatMap V.cellsOf = l ∧ ∀ y ∈ l, y.cellsOf.length = 1 := fun l hl => by
              induction l with
              | nil => simp
              | cons x r ih =>
                simp only [List.all_cons, Bool.and_eq_true] at hl
                have hx1 : x.cellsOf = [x] := by cases x <;> first | rfl | (simp [V.isCell] at hl)
                obtain ⟨i1, i2⟩ := ih (by simpa using hl.2)
                refine ⟨by rw [List.flatMap_cons, hx1, i1]; rfl, ?_⟩
                intro y hy
                rcases List.mem_cons.1 hy with rfl | hy
                · rw [hx1]; rfl
                · exact i2 y hy
            obtain ⟨q1, q2⟩ := hcellsEq _ hc.2
            rw [← hxs]
            simp only [rel]
            refine ⟨some ⟨b, off, none⟩, c, by rw [hc.1], ⟨.inr rfl, ?_⟩, ?_⟩
            · rw [frzE_iff, q1]
              refine ⟨q2, ?_⟩
              rw [frz_iff]
              intro i x hi
              simp only [List.getElem?_map, Option.map_eq_some_iff] at hi
              obtain ⟨x', hx', rfl⟩ := hi
              obtain ⟨y, hy, hxy⟩ := rels_get hrt hx'
              have hmem := hc.2
              rw [List.all_eq_true] at hmem
              have hfc := hmem x'.thin (List.mem_map_of_mem (List.mem_of_getElem? hx'))
              simp only [Bool.and_eq_true] at hfc
              have h1c := rel_isCell (rel_thin hxy) hfc.2
              have hone : y.oneCell' = true := by cases y <;> first | rfl | exact absurd rfl (h1c.1 _) | exact absurd rfl (h1c.2 _)
              refine ⟨y, allF_of rfl ?_ hone, ?_⟩
              · rw [cell_of_heap hw]; exact mem_of_take_drop hy
              · exact rel_mono (le_allF hI) (Mu.le_refl _) _ _ (rel_frozen _ _ hfc.1 (rel_thin hxy))
            · simp only [ownRel, hc.1]
              exact hlc
          · exact (fail_run h3).elim
        · exact (fail_run h1).elim
      · simp only [Act.run, Option.some.injEq, Prod.mk.injEq] at h1
        rw [← h1.1]
        have := rel_thin hv
        simp only [V.thin] at this
        exact ⟨rel_mono (le_allF hI) (Mu.le_refl _) _ _ this, fun _ => this⟩
      · simp only [Act.run, Option.some.injEq, Prod.mk.injEq] at h1
        rw [← h1.1]
        exact ⟨rel_mono (le_allF hI) (Mu.le_refl _) _ _ hv, fun _ => hv⟩
    refine ⟨⟨u, us', rfl, key.1, g1⟩, fun hnv => ?_⟩
    simp only [List.any_cons, Bool.or_eq_false_iff] at hnv
    exact ⟨u, us', rfl, key.2 hnv.1, g2 hnv.2⟩

theorem rel_flat {F' : Frz} {μ' : Mu} {r : V} {u : Value} (hf : r.flat = true) (h : rel F' μ' r u) : rel F μ r u := by
  have cell : ∀ {v : V} {x : Value}, v.flatCell = true → rel F' μ' v x → rel F μ v x := fun {v x} hv hx => by
    cases v <;> simp only [V.flatCell, Bool.false_eq_true] at hv <;> simpa only [rel] using hx
  have cells : ∀ {cs : List V} {us : List Value}, cs.all V.flatCell = true → rels F' μ' cs us → rels F μ cs us := fun {cs} => by
    induction cs with
    | nil => intro us _ h; simpa only [rels] using h
    | cons c r ih =>
      intro us hc h
      simp only [List.all_cons, Bool.and_eq_true] at hc
      obtain ⟨x, us', rfl, h1, h2⟩ := h
      exact ⟨x, us', rfl, cell hc.1 h1, ih hc.2 h2⟩
  unfold V.flat at hf
  split at hf
  · simp only [rel] at h ⊢
    obtain ⟨us, rfl, h1⟩ := h
    exact ⟨us, rfl, cells hf h1⟩
  · rename_i vs
    simp only [rel] at h ⊢
    obtain ⟨us, rfl, h1⟩ := h
    refine ⟨us, rfl, ?_⟩
    induction vs generalizing us with
    | nil => simpa only [rels] using h1
    | cons c r ih =>
      simp only [List.all_cons, Bool.and_eq_true] at hf
      obtain ⟨x, us', rfl, h2, h3⟩ := h1
      refine ⟨x, us', rfl, ?_, ih hf.2 us' h3⟩
      have hc := hf.1
      split at hc
      · simp only [rel] at h2 ⊢
        obtain ⟨ys, rfl, h4⟩ := h2
        exact ⟨ys, rfl, cells hc h4⟩
      · exact cell hc h2
  · exact cell hf h

/-- What a call comes to. -/
def CallGood (P : Program) (f : FuncId) (us : List Value) (F : Frz) (μ : Mu) (σ : Store) (w : World) (a : Ans) : Prop :=
  CallsX P f us.toArray w fun e w' => ∃ u F' μ', e = .returned u ∧ Post F μ w F' μ' (σ.puts a.up) w' ∧ rel F' μ' a.v u

theorem zip_find {ks : List Key} {os : List Obj} {g : Obj → Obj} (hl : os.length = ks.length) (hn : ks.Nodup) {i : Nat} {k : Key} (hk : ks[i]? = some k) (rest : List (Key × Obj)) :
    ∃ o, os[i]? = some o ∧ ((ks.zip (os.map g)) ++ rest).find? (fun p => p.1 = k) = some (k, g o) := by
  induction ks generalizing os i with
  | nil => simp at hk
  | cons k' r ih =>
    cases os with
    | nil => simp at hl
    | cons o os =>
      cases i with
      | zero => simp at hk; subst hk; exact ⟨o, rfl, by simp⟩
      | succ i =>
        simp at hk
        obtain ⟨o', ho', hf⟩ := ih (os := os) (by simpa using hl) (List.nodup_cons.1 hn).2 hk
        refine ⟨o', by simpa using ho', ?_⟩
        have hne : k' ≠ k := fun h => (List.nodup_cons.1 hn).1 (h ▸ List.mem_of_getElem? hk)
        simpa [hne] using hf

theorem newObjs_find : ∀ {os : List Obj} {dst j i : Nat}, i < os.length → ∃ o, os[i]? = some o ∧ (newObjs dst j os).find? (fun p => p.1 = .loc dst (j + i)) = some (.loc dst (j + i), o)
  | [], _, _, _, h => by simp at h
  | o :: os, dst, j, 0, h => ⟨o, rfl, by simp [newObjs]⟩
  | o :: os, dst, j, i + 1, h => by
    obtain ⟨o', h1, h2⟩ := newObjs_find (os := os) (dst := dst) (j := j + 1) (i := i) (by simpa using h)
    refine ⟨o', by simpa using h1, ?_⟩
    simp only [newObjs, List.find?_cons]
    have : ¬ (Key.loc dst j = Key.loc dst (j + (i + 1))) := by simp
    simp only [this, decide_false]
    have e : j + (i + 1) = j + 1 + i := by omega
    rw [e]; exact h2

theorem newObjs_none : ∀ {os : List Obj} {dst j : Nat} {k : Key}, (∀ i, k = .loc dst i → ¬ (j ≤ i ∧ i < j + os.length)) → (newObjs dst j os).find? (fun p => p.1 = k) = none
  | [], _, _, _, _ => rfl
  | o :: os, dst, j, k, h => by
    simp only [newObjs, List.find?_cons]
    have : ¬ (Key.loc dst j = k) := fun he => h j he.symm ⟨Nat.le_refl _, by simp⟩
    simp only [this, decide_false]
    exact newObjs_none fun i hi hc => h i hi ⟨by omega, by simp; omega⟩

theorem newObjs_keys : ∀ {os : List Obj} {dst j : Nat} {k : Key}, k ∈ (newObjs dst j os).map (·.1) → ∃ i, k = .loc dst i ∧ j ≤ i ∧ i < j + os.length
  | [], _, _, _, h => by simp [newObjs] at h
  | o :: os, dst, j, k, h => by
    simp only [newObjs, List.map_cons, List.mem_cons] at h
    rcases h with rfl | h
    · exact ⟨j, rfl, Nat.le_refl _, by simp⟩
    · obtain ⟨i, h1, h2, h3⟩ := newObjs_keys h
      exact ⟨i, h1, by omega, by simp; omega⟩

theorem newObjs_nodup : ∀ {os : List Obj} {dst j : Nat}, ((newObjs dst j os).map (·.1)).Nodup
  | [], _, _ => by simp [newObjs]
  | o :: os, dst, j => by
    simp only [newObjs, List.map_cons, List.nodup_cons]
    refine ⟨fun h => ?_, newObjs_nodup⟩
    obtain ⟨i, h1, h2, _⟩ := newObjs_keys h
    simp at h1; omega

theorem call_good (hS : Sound P G C) (hI : Inv F μ σ w) (hG : ∀ g cs, G.get g = some cs → frz F g 0 cs) {dst : Nat} {f : FuncId} {args : List V} {us : List Value} (hus : rels F μ args us) {ans : Ans} {l rd : List Key}
    (hr : (callBy C dst f args).run σ l = some (ans, rd)) : CallGood P f us F μ σ w ans := by
  unfold callBy at hr
  split at hr
  · exact (fail_run hr).elim
  rename_i c hc
  have hH := hS.holds f c hc
  obtain ⟨args', l1, hlend, hr⟩ := bind_run hr
  obtain ⟨ha1, ha2⟩ := lends_run hI hlend hus
  split at hr
  · -- rows are lent
    split at hr
    · rename_i hkeys
      split at hr
      · rename_i r hcr
        split at hr
        · rename_i hflat
          have := just_run hr; subst this
          have hno : rels (allF w) noMu args' us := by
            have := rels_ren (μ := μ) (μ' := noMu) (f := id) args' us (fun k h hk _ => by rw [hkeys] at hk; cases hk) ha1
            have hid : ∀ v : V, v.ren id = v := by
              intro v
              induction v using V.rec (motive_2 := fun vs => V.rens id vs = vs) <;> simp_all [V.ren, V.rens]
              split <;> simp_all
            have hids : ∀ vs : List V, V.rens id vs = vs := fun vs => by
              induction vs with
              | nil => rfl
              | cons v r ih => simp [V.rens, hid, ih]
            rwa [hids] at this
          refine (hH args' [] r [] [] hcr rfl (allF w) noMu w us (fun g cs hg => frz_mono (le_allF hI) _ _ _ (hG g cs hg)) inv_allF hno).mono fun e w' ⟨u, F', μ', he, _, hx, _, hrel⟩ => ?_
          have hlt : ∀ b, b < w.heap.size → w'.heap[b]? = w.heap[b]? := fun b hb => by
            rcases hx.keep b hb with ⟨k, hk⟩ | h | ⟨vs, vs', ty, hw, hw', hl, ho⟩
            · simp [noMu] at hk
            · exact h
            · have : vs' = vs := List.ext_getElem? fun i => ho i (by rintro (⟨k, hk⟩ | ⟨k, p, r, e, n, hk, _⟩) <;> simp [noMu] at hk)
              subst this
              exact hw'.trans hw.symm
          exact ⟨u, F, μ, he, ⟨hI.grow F.le_refl hlt (fun _ _ h => .inl h), Ext.grow F.le_refl hx.size hlt (fun _ _ h => .inl h) hx.os hx.out, Mu.le_refl _⟩, rel_flat hflat hrel⟩
        · exact (fail_run hr).elim
      · exact (fail_run hr).elim
    · exact (fail_run hr).elim
  · rename_i hnv
    have hnv' : args.any isView = false := by simpa using hnv
    have hargs := ha2 hnv'
    obtain ⟨objs, l2, hreach, hr⟩ := bind_run hr
    have hobjs := reach_run 64 _ [] hreach (by simp)
    simp only at hr
    generalize hks : objs.map (·.1) = ks at hr
    split at hr
    · rename_i hcond
      simp only [Bool.and_eq_true, decide_eq_true_eq, List.all_eq_true] at hcond
      obtain ⟨⟨hk1, hk2⟩, hnd⟩ := hcond
      split at hr
      · rename_i r os ns hcr
        split at hr
        · rename_i hlen
          obtain ⟨hfresh, l3, hr⟩ := news_run hr
          have := ret_run hr; simp only at this; subst this
          have hkl : objs.length = ks.length := by rw [← hks]; simp
          have hget : ∀ i k, ks[i]? = some k → ∃ o, objs[i]? = some (k, o) ∧ σ.get k = some o := fun i k hi => by
            rw [← hks, List.getElem?_map, Option.map_eq_some_iff] at hi
            obtain ⟨p, hp, rfl⟩ := hi
            exact ⟨p.2, hp, hobjs p (List.mem_of_getElem? hp)⟩
          -- the callee's start
          have hInv : Inv F (muIn μ ks) (argObjs 0 (objs.map fun p => p.2.ren (inKey ks))) w := {
            frozen := hI.frozen
            dom1 := fun k o hk => by
              cases k with
              | loc s j => rw [argObjs_get] at hk; cases hk
              | arg i =>
                rw [argObjs_get0, List.getElem?_map, Option.map_eq_some_iff] at hk
                obtain ⟨p, hp, rfl⟩ := hk
                obtain ⟨h, h1, h2⟩ := hI.dom1 p.1 p.2 (hobjs p (List.mem_of_getElem? hp))
                refine ⟨h, ?_, objRel_ren (fun k h' hk' hm => muIn_inKey (List.mem_of_elem_eq_true (by simpa using hk2 p (List.mem_of_getElem? hp) k hk')) hm) h2⟩
                simp only [muIn]
                rw [← hks, List.getElem?_map, hp]; exact h1
            dom2 := fun k h hk => by
              cases k with
              | loc s j => cases hk
              | arg i =>
                simp only [muIn, Option.bind_eq_some_iff] at hk
                obtain ⟨k', hk', _⟩ := hk
                obtain ⟨o, ho, _⟩ := hget i k' hk'
                exact ⟨o.ren (inKey ks), by rw [argObjs_get0, List.getElem?_map, ho]; rfl⟩
            apart := fun k k' h h' hne h1 h2 => by
              cases k with
              | loc s j => cases h1
              | arg i =>
                cases k' with
                | loc s j => cases h2
                | arg j =>
                  simp only [muIn, Option.bind_eq_some_iff] at h1 h2
                  obtain ⟨a, ha, h1⟩ := h1
                  obtain ⟨b, hb, h2⟩ := h2
                  exact hI.apart a b h h' (fun hab => by subst hab; exact hne (by rw [nodup_idx hnd ha hb])) h1 h2 }
          have hargs' : rels F (muIn μ ks) (V.rens (inKey ks) args') us := rels_ren args' us (fun k h hk hm => muIn_inKey (by simpa using hk1 k hk) hm) hargs
          have hsub : ∀ k h, muIn μ ks k = some h → ∃ k', μ k' = some h := fun k h hk => by
            cases k with
            | loc s j => cases hk
            | arg i =>
              simp only [muIn, Option.bind_eq_some_iff] at hk
              obtain ⟨k', _, h⟩ := hk
              exact ⟨k', h⟩
          refine (hH _ _ r os ns hcr (by simp [hlen, hkl]) F (muIn μ ks) w us hG hInv hargs').mono fun e w' ⟨u, F', μc', he, hI', hx, hle, hrel⟩ => ?_
          -- the caller's map
          have mu_in : ∀ i k, ks[i]? = some k → muOut μ μc' ks dst ns.length k = μc' (.arg i) := fun i k hi => by
            obtain ⟨j, hj⟩ := findIdxKey_mem 0 (List.mem_of_getElem? hi)
            obtain ⟨_, h2⟩ := findIdxKey_spec hj
            simp at h2
            have := nodup_idx hnd hi h2
            subst this
            simp only [muOut, hj]
          have not_in : ∀ k, k ∉ ks → findIdxKey k ks 0 = none := fun k hk => by
            cases hq : findIdxKey k ks 0 with
            | none => rfl
            | some j =>
              obtain ⟨_, h2⟩ := findIdxKey_spec hq
              exact absurd (List.mem_of_getElem? h2) hk
          have fresh_not : ∀ j, j < ns.length → Key.loc dst j ∉ ks := fun j hj hm => by
            obtain ⟨i, hi⟩ := List.getElem?_of_mem hm
            obtain ⟨o, _, ho⟩ := hget i _ hi
            rw [hfresh j (by omega) (by omega)] at ho; cases ho
          have mu_new : ∀ j, j < ns.length → muOut μ μc' ks dst ns.length (.loc dst j) = μc' (.arg (ks.length + j)) := fun j hj => by
            simp only [muOut, not_in _ (fresh_not j hj), true_and, hj, if_true]
          have mu_other : ∀ k, k ∉ ks → (∀ j, k = .loc dst j → ¬ j < ns.length) → muOut μ μc' ks dst ns.length k = μ k := fun k h1 h2 => by
            simp only [muOut, not_in k h1]
            cases k with
            | arg i => rfl
            | loc s j =>
              simp only
              rw [if_neg]
              rintro ⟨rfl, hj⟩
              exact h2 j rfl hj
          have hgo : ∀ (k : Key) (h : Hd), μc' k = some h → muOut μ μc' ks dst ns.length (outKey ks dst k) = some h := fun k h hk => by
            obtain ⟨o, ho⟩ := hI'.dom2 k h hk
            cases k with
            | loc s j => rw [argObjs_get] at ho; cases ho
            | arg i =>
              rw [argObjs_get0] at ho
              have hi : i < ks.length + ns.length := by
                have := (List.getElem?_eq_some_iff.1 ho).1
                simpa [hlen] using this
              simp only [outKey]
              cases hq : ks[i]? with
              | some k' => simp only; rw [mu_in i k' hq]; exact hk
              | none =>
                have : ks.length ≤ i := by
                  rcases Nat.lt_or_ge i ks.length with h' | h'
                  · rw [List.getElem?_eq_getElem h'] at hq; cases hq
                  · exact h'
                simp only
                rw [mu_new (i - ks.length) (by omega), show ks.length + (i - ks.length) = i by omega]; exact hk
          have hleμ : μ.le (muOut μ μc' ks dst ns.length) := fun k h hk => by
            by_cases hm : k ∈ ks
            · obtain ⟨i, hi⟩ := List.getElem?_of_mem hm
              rw [mu_in i k hi]
              exact hle (.arg i) h (by simp [muIn, hi, hk])
            · by_cases hn : ∃ j, k = .loc dst j ∧ j < ns.length
              · obtain ⟨j, rfl, hj⟩ := hn
                rw [hI.mu_none (hfresh j (by omega) (by omega))] at hk; cases hk
              · rw [mu_other k hm (fun j hj hlt => hn ⟨j, hj, hlt⟩)]
                exact ⟨h, hk, h.le_refl⟩
          have hdisj : ∀ k h, k ∉ ks → μ k = some h → ∀ k' h', muIn μ ks k' = some h' → h.disj h' := fun k h hk hm k' h' hk' => by
            cases k' with
            | loc s j => cases hk'
            | arg i =>
              simp only [muIn, Option.bind_eq_some_iff] at hk'
              obtain ⟨k2, hk2', h2⟩ := hk'
              exact hI.apart k k2 h h' (fun he => by subst he; exact hk (List.mem_of_getElem? hk2')) hm h2
          have hget' : ∀ k, (σ.puts ((ks.zip (os.map (Obj.ren (outKey ks dst)))) ++ newObjs dst 0 (ns.map (Obj.ren (outKey ks dst))))).get k =
              match ((ks.zip (os.map (Obj.ren (outKey ks dst)))) ++ newObjs dst 0 (ns.map (Obj.ren (outKey ks dst)))).find? (fun p => p.1 = k) with | some p => some p.2 | none => σ.get k := fun k => by
            refine puts_get _ σ k ?_
            rw [List.map_append, List.map_fst_zip (by simp [hlen])]
            rw [List.nodup_append]
            refine ⟨hnd, newObjs_nodup, fun a ha b hb hab => ?_⟩
            subst hab
            obtain ⟨i, rfl, _, h3⟩ := newObjs_keys hb
            exact fresh_not i (by simpa using h3) ha
          -- where a key's object comes from
          have origin : ∀ k, (∃ (a : Nat) (o : Obj), (os ++ ns)[a]? = some o ∧ muOut μ μc' ks dst ns.length k = μc' (.arg a) ∧
                (σ.puts ((ks.zip (os.map (Obj.ren (outKey ks dst)))) ++ newObjs dst 0 (ns.map (Obj.ren (outKey ks dst))))).get k = some (o.ren (outKey ks dst)) ∧ (ks[a]? = some k ∨ (ks[a]? = none ∧ k = .loc dst (a - ks.length)))) ∨
              (k ∉ ks ∧ muOut μ μc' ks dst ns.length k = μ k ∧ (σ.puts ((ks.zip (os.map (Obj.ren (outKey ks dst)))) ++ newObjs dst 0 (ns.map (Obj.ren (outKey ks dst))))).get k = σ.get k) := fun k => by
            by_cases hm : k ∈ ks
            · obtain ⟨i, hi⟩ := List.getElem?_of_mem hm
              obtain ⟨o, ho, hf⟩ := zip_find (g := Obj.ren (outKey ks dst)) hlen hnd hi (newObjs dst 0 (ns.map (Obj.ren (outKey ks dst))))
              have hio : i < os.length := (List.getElem?_eq_some_iff.1 ho).1
              refine .inl ⟨i, o, by rw [List.getElem?_append_left hio]; exact ho, mu_in i k hi, ?_, .inl hi⟩
              rw [hget', hf]
            · have hz : (ks.zip (os.map (Obj.ren (outKey ks dst)))).find? (fun p => p.1 = k) = none := by
                rw [List.find?_eq_none]
                intro p hp hh
                simp at hh
                have := (List.of_mem_zip hp).1
                rw [hh] at this
                exact hm this
              by_cases hn : ∃ j, k = .loc dst j ∧ j < ns.length
              · obtain ⟨j, rfl, hj⟩ := hn
                obtain ⟨o, ho, hf⟩ := newObjs_find (os := ns.map (Obj.ren (outKey ks dst))) (dst := dst) (j := 0) (i := j) (by simpa using hj)
                rw [List.getElem?_map, Option.map_eq_some_iff] at ho
                obtain ⟨o', ho', rfl⟩ := ho
                refine .inl ⟨ks.length + j, o', ?_, mu_new j hj, ?_, .inr ⟨?_, ?_⟩⟩
                · rw [List.getElem?_append_right (by omega), hlen, Nat.add_sub_cancel_left]; exact ho'
                · rw [hget', List.find?_append, hz]
                  simp only [Nat.zero_add] at hf
                  simp only [Option.none_or, hf]
                · exact List.getElem?_eq_none (by omega)
                · rw [Nat.add_sub_cancel_left]
              · refine .inr ⟨hm, mu_other k hm (fun j hj hlt => hn ⟨j, hj, hlt⟩), ?_⟩
                rw [hget', List.find?_append, hz, newObjs_none fun i hi hc => hn ⟨i, hi, by simpa using hc.2⟩]
                rfl
          have hgetc : ∀ a o, (os ++ ns)[a]? = some o → (argObjs 0 (os ++ ns)).get (.arg a) = some o := fun a o h => by rw [argObjs_get0]; exact h
          refine ⟨u, F', muOut μ μc' ks dst ns.length, he, ⟨⟨hI'.frozen, fun k o hk => ?_, fun k h hk => ?_, fun k k' h h' hne h1 h2 => ?_⟩, hx.weaken hsub fun k h hk => ?_, hleμ⟩, rel_ren r u (fun k h _ hk => hgo k h hk) hrel⟩
          · rcases origin k with ⟨a, o', ho', hmu, hg', _⟩ | ⟨hm, hmu, hg'⟩
            · rw [hg'] at hk; cases hk
              obtain ⟨h, h1, h2⟩ := hI'.dom1 (.arg a) o' (hgetc a o' ho')
              exact ⟨h, by rw [hmu]; exact h1, objRel_ren (fun k h _ hk => hgo k h hk) h2⟩
            · rw [hg'] at hk
              obtain ⟨h, h1, h2⟩ := hI.dom1 k o hk
              have hd := hdisj k h hm h1
              refine ⟨h, by rw [hmu]; exact h1, objRel_mono hx.le hleμ h2 (fun b hb => (hx.apart_block hd hb (objRel_lt h2 b hb)).1) (fun b off u hb hq => ?_)⟩
              have hb' : h = .blk b ∨ ∃ p r e n, h = .spare b p r e n ∧ r ≠ 0 := by
                rcases hb with hb | ⟨p, r, e, n, hb, h3, h4⟩
                · exact .inl hb
                · exact .inr ⟨p, r, e, n, hb, fun h0 => by subst h0; omega⟩
              exact (hx.apart_block hd hb' (objRel_lt h2 b hb')).2 off u hb hq
          · rcases origin k with ⟨a, o', ho', hmu, hg', _⟩ | ⟨hm, hmu, hg'⟩
            · exact ⟨_, hg'⟩
            · rw [hmu] at hk
              obtain ⟨o, ho⟩ := hI.dom2 k h hk
              exact ⟨o, by rw [hg']; exact ho⟩
          · rcases origin k with ⟨a, o1, ho1, hmu1, _, hka⟩ | ⟨hm1, hmu1, _⟩ <;> rcases origin k' with ⟨b, o2, ho2, hmu2, _, hkb⟩ | ⟨hm2, hmu2, _⟩ <;> rw [hmu1] at h1 <;> rw [hmu2] at h2
            · refine hI'.apart (.arg a) (.arg b) h h' (fun hab => ?_) h1 h2
              cases hab
              rcases hka with hka | ⟨hka, rfl⟩ <;> rcases hkb with hkb | ⟨hkb, rfl⟩
              · rw [hka] at hkb; cases hkb; exact hne rfl
              · rw [hka] at hkb; cases hkb
              · rw [hka] at hkb; cases hkb
              · exact hne rfl
            · obtain ⟨o, ho⟩ := hI.dom2 k' h' h2
              obtain ⟨h'', e1, e2⟩ := hI.dom1 k' o ho
              rw [h2] at e1; cases e1
              obtain ⟨g, e3, e4⟩ := hI'.dom1 (.arg a) o1 (hgetc a o1 ho1)
              rw [h1] at e3; cases e3
              exact Hd.disj_symm ((hx.hd _ _ h1).disj e4 e2 (hdisj k' h' hm2 h2))
            · obtain ⟨o, ho⟩ := hI.dom2 k h h1
              obtain ⟨h'', e1, e2⟩ := hI.dom1 k o ho
              rw [h1] at e1; cases e1
              obtain ⟨g, e3, e4⟩ := hI'.dom1 (.arg b) o2 (hgetc b o2 ho2)
              rw [h2] at e3; cases e3
              exact (hx.hd _ _ h2).disj e4 e2 (hdisj k h hm1 h1)
            · exact hI.apart k k' h h' hne h1 h2
          · rcases origin k with ⟨a, o', ho', hmu, _⟩ | ⟨hm, hmu, _⟩
            · rw [hmu] at hk; exact (hx.hd _ _ hk).weaken hsub
            · rw [hmu] at hk; exact (Ext.refl μ F w).hd k h hk
        · exact (fail_run hr).elim
      · exact (fail_run hr).elim
    · exact (fail_run hr).elim

end
end Go.Ev
