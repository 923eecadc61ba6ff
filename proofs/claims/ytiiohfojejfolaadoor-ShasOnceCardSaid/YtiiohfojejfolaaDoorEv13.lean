/-
  Maps written, structs and slices built, bytes copied: on plain values and in memory.
-/
import Derived.Test.YtiiohfojejfolaaDoorEv12
set_option linter.unusedVariables false
set_option linter.unusedSimpArgs false
namespace Go.Ev
open Go
section
variable {P : Program} {w : World} {F : Frz} {μ : Mu} {σ : Store}

theorem keyOk_frozen {kf : Option Nat} {k : V} (h : keyOk kf k = true) : k.frozen = true := by
  unfold keyOk at h
  split at h
  · rfl
  · rename_i n cs
    simp only [Bool.and_eq_true, decide_eq_true_eq] at h
    have : ∀ l : List V, l.all V.isInt = true → V.frozens l = true := fun l => by
      induction l with
      | nil => simp [V.frozens]
      | cons x r ih =>
        intro hl
        simp only [List.all_cons, Bool.and_eq_true] at hl
        cases x <;> simp only [V.isInt, Bool.false_eq_true, false_and] at hl
        simp [V.frozens, V.frozen, ih hl.2]
    simpa [V.frozen] using this cs h.2
  · cases h

/-- Equal keys are the same value. -/
theorem eqCells_same : ∀ {xs ys : List V} {us vs : List Value}, eqCells xs ys = some true → rels F μ xs us → rels F μ ys vs → us = vs ∧ ∀ u ∈ us, ∃ k n, u = .int k n
  | [], [], us, vs, _, hx, hy => by simp only [rels] at hx hy; subst hx hy; simp
  | [], _ :: _, _, _, h, _, _ => by simp [eqCells] at h
  | _ :: _, [], _, _, h, _, _ => by simp [eqCells] at h
  | x :: xs, y :: ys, us, vs, h, hx, hy => by
    simp only [eqCells] at h
    split at h
    · rename_i he
      obtain ⟨u, us', rfl, h1, h2⟩ := hx
      obtain ⟨v, vs', rfl, h3, h4⟩ := hy
      obtain ⟨e1, e2⟩ := eqCells_same h h2 h4
      unfold eqCell at he
      split at he
      · split at he
        · rename_i hk
          simp only [rel] at h1 h3
          simp only [Option.some.injEq, beq_iff_eq] at he
          subst hk he h1 h3 e1
          exact ⟨rfl, fun u hu => by
            rcases List.mem_cons.1 hu with rfl | hu
            · exact ⟨_, _, rfl⟩
            · exact e2 u hu⟩
        · cases he
      · cases he
    · cases h
    · cases h

theorem key_same {kf : Option Nat} {x y : V} {u v : Value} (he : eqKey kf x y = some true) (hx : rel F μ x u) (hy : rel F μ y v) : u = v ∧ Instr.sameBits 10000 u u = true := by
  unfold eqKey at he
  split at he
  · simp only [rel] at hx hy
    subst hx hy
    unfold eqCell at he
    simp only at he
    split at he
    · rename_i hk
      simp only [Option.some.injEq, beq_iff_eq] at he
      subst hk he
      exact ⟨rfl, by simp [Instr.sameBits]⟩
    · cases he
  · split at he
    · simp only [rel] at hx hy
      obtain ⟨us, rfl, h1⟩ := hx
      obtain ⟨vs, rfl, h2⟩ := hy
      obtain ⟨rfl, hall⟩ := eqCells_same he h1 h2
      refine ⟨rfl, ?_⟩
      have : ∀ d, Instr.sameBits (d + 1) (.agg us.toArray) (.agg us.toArray) = true := fun d => by
        simp only [Instr.sameBits, beq_self_eq_true, Bool.true_and]
        have : ∀ l : List Value, (∀ u ∈ l, ∃ k n, u = .int k n) → ((l.zip l).all fun (x, y) => Instr.sameBits d x y) = true := fun l => by
          induction l with
          | nil => simp
          | cons a r ih =>
            intro hl
            obtain ⟨k, n, rfl⟩ := hl a (by simp)
            simp only [List.zip_cons_cons, List.all_cons, ih (fun u hu => hl u (by simp [hu])), Bool.and_true]
            cases d <;> simp [Instr.sameBits]
        exact this us hall
      exact this 9999
    · cases he
  · cases he

theorem good_mapSet {t kt vt : TypeId} {kf : Option Nat} {m k v : V} {um uk uv : Value} {a : Ans} {l rd : List Key} (hI : Inv F μ σ w) (hu : P.underlying t = some (.map kt vt)) (hkf : keyForm P kt = some kf)
    (hm : rel F μ m um) (hk : rel F μ k uk) (hv : rel F μ v uv)
    (hr : (match m with
      | .map key => Act.get key fun
        | .map es => if (keyOk kf k && valOk v) = true then (match setK kf k v es with
          | some es => .ret (⟨.tuple [], [(key, .map es)]⟩ : Ans)
          | none => .fail) else .fail
        | _ => .fail
      | _ => Act.fail).run σ l = some (a, rd)) : Good P (do Instr.mapUpdate t um uk uv; pure .skip) F μ σ w a := by
  cases m <;> try (exact (fail_run hr).elim)
  rename_i key
  obtain ⟨o, ho, hr⟩ := get_run hr
  cases o <;> simp only at hr <;> try (exact (fail_run hr).elim)
  rename_i es
  split at hr
  · rename_i hok
    simp only [Bool.and_eq_true] at hok
    obtain ⟨hok, _⟩ := hok
    split at hr
    · rename_i es' hset
      have := ret_run hr; simp only at this; subst this
      simp only [rel] at hm
      obtain ⟨b, hb, rfl⟩ := hm
      obtain ⟨ents, clock, hw, hmr⟩ := hI.map ho hb
      have hk0 : rel F noMu k uk := rel_frozen _ _ (keyOk_frozen hok) hk
      obtain ⟨p, hp, hcase⟩ := setK_pos hset
      have hfind := run_findKey' (P := P) (w := w) hkf hok hk0 hmr hp
      have hck := run_checkKey' (P := P) (w := w) false hkf hok hk
      have hlt : b < w.heap.size := by
        rcases Nat.lt_or_ge b w.heap.size with h' | h'
        · exact h'
        · rw [Array.getElem?_eq_none h'] at hw; cases hw
      have hget : (getObj b).run P w = .ok (.map ents clock) w := by simp [getObj, Sem.run, hw]
      have hset' : ∀ o, (setObj b o).run P w = .ok () { w with heap := w.heap.setIfInBounds b o } := fun o => by simp [setObj, Sem.run, hw]
      have post : ∀ (ents' : Array MapEntry) (clock' : Nat), mapRel F μ es' ents'.toList → Post F μ w F μ (σ.put key (.map es')) { w with heap := w.heap.setIfInBounds b (.map ents' clock') } := fun ents' clock' hmr' => by
        refine Post.setBlk hI hb (by simp) (fun b' hb' => by simp [Array.getElem?_setIfInBounds_ne (Ne.symm hb')]) rfl rfl ?_
        exact ⟨ents', clock', by simp [hlt], hmr'⟩
      rcases hcase with ⟨rfl, rfl⟩ | ⟨i, kv, rfl, hi, heq, rfl⟩
      · refine ⟨undef, _, F, μ, .inr ⟨?_, rfl⟩, post (ents.push { key := uk, val := uv, born := clock }) (clock + 1) (by rw [Array.toList_push]; exact mapRel_append hmr hk0 hv), by simp [rel, rels, undef]⟩
        simp only [Instr.mapUpdate, Sem.run_bind, run_underlying hu, Result.andThen_ok, hget, hck, hfind, Option.bind_none, hset', Sem.run_pure]
      · obtain ⟨e, he, hke, hve⟩ := mapRel_get hmr hi
        obtain ⟨hsame, hbits⟩ := key_same heq hk0 hke
        have hil : i < ents.size := by
          have := List.getElem?_eq_some_iff.1 he
          simpa using this.1
        refine ⟨undef, _, F, μ, .inr ⟨?_, rfl⟩, post (ents.modify i fun e => { e with key := uk, val := uv }) clock ?_, by simp [rel, rels, undef]⟩
        · have he' : ents[i]? = some e := by simpa using he
          simp only [Instr.mapUpdate, Sem.run_bind, run_underlying hu, Result.andThen_ok, hget, hck, hfind, Option.bind_some, he, Option.map_some, he', Option.getD_some]
          have : (Instr.keyThatStays e.key uk).run P w = .ok uk w := by
            rw [← hsame]; simp [Instr.keyThatStays, hbits]
          simp only [this, Result.andThen_ok, hset', Sem.run_pure]
        · have : (ents.modify i fun e => { e with key := uk, val := uv }).toList = ents.toList.set i { e with key := uk, val := uv } := by
            apply List.ext_getElem?
            intro j
            simp only [Array.getElem?_toList, Array.getElem?_modify, List.getElem?_set]
            by_cases hij : i = j
            · subst hij
              simp only [if_true]
              have he' : ents[i]? = some e := by simpa using he
              rw [Array.getElem?_eq_getElem hil] at he'
              cases he'
              simp [hil]
            · simp [hij]
          rw [this]
          exact mapRel_set hmr hk0 hv
    · exact (fail_run hr).elim
  · exact (fail_run hr).elim

theorem good_delete {t t' ty kt vt : TypeId} {kf : Option Nat} {m k : V} {um uk : Value} {a : Ans} {l rd : List Key} (hI : Inv F μ σ w) (hu : P.underlying t = some (.map kt vt)) (hkf : keyForm P kt = some kf)
    (hr : (if keyOk kf k = true then (match m with
      | .nilmap => Act.just (.tuple [])
      | .map key => .get key fun
        | .map es => match delK kf k es with
          | some es => .ret ⟨.tuple [], [(key, .map es)]⟩
          | none => .fail
        | _ => .fail
      | _ => .fail) else .fail : Act Ans).run σ l = some (a, rd)) (hm : rel F μ m um) (hk : rel F μ k uk) : Good P (do pure (.value (← Builtin.delete_ #[t, t'] ty #[um, uk]))) F μ σ w a := by
  split at hr
  · rename_i hok
    have hk0 : rel F noMu k uk := rel_frozen _ _ (keyOk_frozen hok) hk
    cases m <;> try (exact (fail_run hr).elim)
    · rename_i key
      obtain ⟨o, ho, hr⟩ := get_run hr
      cases o <;> simp only at hr <;> try (exact (fail_run hr).elim)
      rename_i es
      split at hr
      · rename_i es' hdel
        have := ret_run hr; simp only at this; subst this
        simp only [rel] at hm
        obtain ⟨b, hb, rfl⟩ := hm
        obtain ⟨ents, clock, hw, hmr⟩ := hI.map ho hb
        obtain ⟨p, hp, hcase⟩ := delK_pos hdel
        have hfind := run_findKey' (P := P) (w := w) hkf hok hk0 hmr hp
        have hck := run_checkKey' (P := P) (w := w) ents.isEmpty hkf hok hk
        have hlt : b < w.heap.size := by
          rcases Nat.lt_or_ge b w.heap.size with h' | h'
          · exact h'
          · rw [Array.getElem?_eq_none h'] at hw; cases hw
        have hget : (getObj b).run P w = .ok (.map ents clock) w := by simp [getObj, Sem.run, hw]
        have hset' : ∀ o, (setObj b o).run P w = .ok () { w with heap := w.heap.setIfInBounds b o } := fun o => by simp [setObj, Sem.run, hw]
        have post : ∀ (ents' : Array MapEntry) (clock' : Nat), mapRel F μ es' ents'.toList → Post F μ w F μ (σ.put key (.map es')) { w with heap := w.heap.setIfInBounds b (.map ents' clock') } := fun ents' clock' hmr' => by
          refine Post.setBlk hI hb (by simp) (fun b' hb' => by simp [Array.getElem?_setIfInBounds_ne (Ne.symm hb')]) rfl rfl ?_
          exact ⟨ents', clock', by simp [hlt], hmr'⟩
        rcases hcase with ⟨rfl, rfl⟩ | ⟨i, rfl, hi, rfl⟩
        · refine ⟨.tuple #[], _, F, μ, .inl ?_, post ents clock hmr, by simp [rel, rels]⟩
          simp only [Builtin.delete_, List.getElem?_toArray, List.getElem?_cons_zero, List.getElem?_cons_succ, Sem.run_bind, run_underlying hu, Result.andThen_ok, hget, hck, hfind, Option.bind_none, hset', Sem.run_pure]
        · have hl := mapRel_length hmr
          have hi' : i < ents.toList.length := by omega
          refine ⟨.tuple #[], _, F, μ, .inl ?_, post (ents.eraseIdxIfInBounds i) clock ?_, by simp [rel, rels]⟩
          · simp only [Builtin.delete_, List.getElem?_toArray, List.getElem?_cons_zero, List.getElem?_cons_succ, Sem.run_bind, run_underlying hu, Result.andThen_ok, hget, hck, hfind, Option.bind_some, List.getElem?_eq_getElem hi', Option.map_some, hset', Sem.run_pure]
          · have : (ents.eraseIdxIfInBounds i).toList = ents.toList.eraseIdx i := by
              simp only [Array.eraseIdxIfInBounds]
              rw [dif_pos (by simpa using hi')]
              simp
            rw [this]
            exact mapRel_erase hmr
      · exact (fail_run hr).elim
    · have := just_run hr; subst this
      simp only [rel] at hm
      subst hm
      refine Good.same hI (v := .tuple #[]) ?_ (by simp [rel, rels])
      simp only [Builtin.delete_, List.getElem?_toArray, List.getElem?_cons_zero, List.getElem?_cons_succ, Sem.run_bind, run_underlying hu, Result.andThen_ok, run_checkKey' (P := P) (w := w) true hkf hok hk, Sem.run_pure]
  · exact (fail_run hr).elim

/-! ### structs and slices built -/

theorem foldl_set : ∀ (l : List Value) (k off : Nat) (cells : Array Value), off + k + l.length ≤ cells.size →
    ((l.zipIdx k).foldl (fun cs (c, j) => cs.setIfInBounds (off + j) c) cells).toList = cells.toList.take (off + k) ++ l ++ cells.toList.drop (off + k + l.length)
  | [], k, off, cells, h => by simp
  | x :: r, k, off, cells, h => by
    simp only [List.zipIdx_cons, List.foldl_cons]
    rw [foldl_set r (k + 1) off _ (by simp at h ⊢; omega)]
    simp only [Array.toList_setIfInBounds, List.length_cons]
    simp only [List.length_cons] at h
    have e := list_seg_step cells.toList (off + k) x r (by simp; omega)
    simpa [Nat.add_assoc] using e

theorem fill_step {size off : Nat} {x : V} {v : Value} {cs : List V} {cells : Array Value} (hc : rels F μ cs cells.toList) (hx : rel F μ x v) (hl : x.cellsOf.length = size) (hb : off + size ≤ cs.length) (hcell : x.cellsOf.all V.isCell = true) :
    v.cells.size = size ∧ off + v.cells.size ≤ cells.size ∧ rels F μ (splice cs off x.cellsOf) (v.cells.zipIdx.foldl (fun cs (c, j) => cs.setIfInBounds (off + j) c) cells).toList := by
  have hn : x ≠ .undef := by rintro rfl; simp [V.cellsOf, V.isCell] at hcell
  have h1 := rel_cells hx hn
  have h2 := rels_length h1
  have h3 := rels_length hc
  simp only [Array.length_toList] at h2 h3
  refine ⟨by omega, by omega, ?_⟩
  rw [← Array.foldl_toList, Array.toList_zipIdx, foldl_set _ 0 off cells (by simp; omega)]
  have := rels_splice (off := off) hc h1
  simpa using this

def partsRel (F : Frz) (μ : Mu) (place : Nat → Option (Nat × Nat)) : List (Nat × Nat × V) → List (Nat × Value) → Prop
  | [], ps => ps = []
  | (off, size, x) :: r, ps => ∃ i v ps', ps = (i, v) :: ps' ∧ place i = some (off, size) ∧ rel F μ x v ∧ partsRel F μ place r ps'

theorem run_fill {place : Nat → Option (Nat × Nat)} : ∀ {vp : List (Nat × Nat × V)} {ps : List (Nat × Value)} {cs cs' : List V} {cells : Array Value}, rels F μ cs cells.toList → partsRel F μ place vp ps → fillV cs vp = some cs' →
    ∃ cells', Instr.fill place cells ps = some cells' ∧ rels F μ cs' cells'.toList
  | [], ps, cs, cs', cells, hc, hp, h => by
    simp only [partsRel] at hp; subst hp
    simp only [fillV, Option.some.injEq] at h; subst h
    exact ⟨cells, rfl, hc⟩
  | (off, size, x) :: r, ps, cs, cs', cells, hc, hp, h => by
    obtain ⟨i, v, ps', rfl, hpl, hx, hp'⟩ := hp
    simp only [fillV] at h
    split at h
    · rename_i hcond
      obtain ⟨h1, h2, h3⟩ := hcond
      obtain ⟨g1, g2, g3⟩ := fill_step hc hx h1 h2 h3
      obtain ⟨cells', hf, hr⟩ := run_fill g3 hp' h
      refine ⟨cells', ?_, hr⟩
      unfold Instr.fill
      simp only [hpl]
      rw [if_neg (by simp; omega)]
      exact hf
    · cases h

theorem mapM_sizes : ∀ (fs : List Field), fs.all (fun f => (sizeT P f.type).isSome) = true → (fs.mapM (fun f => do pure (f.offset, ← sizeOf f.type)) : Sem (List (Nat × Nat))).run P w = .ok (fs.map fun f => (f.offset, (sizeT P f.type).getD 0)) w
  | [], _ => by simp
  | f :: r, h => by
    simp only [List.all_cons, Bool.and_eq_true] at h
    obtain ⟨n, hn⟩ := Option.isSome_iff_exists.1 h.1
    simp only [List.mapM_cons, Sem.run_bind, run_sizeOf' hn, Result.andThen_ok, Sem.run_pure, mapM_sizes r h.2, List.map_cons, hn, Option.getD_some]

theorem run_build_struct {t : TypeId} {fs : Array Field} {z cs : List V} {vp : List (Nat × Nat × V)} {parts : Array (Nat × Value)} (hu : P.underlying t = some (.struct fs)) (hz : zeroT P t = some z) (hall : fs.toList.all (fun f => (sizeT P f.type).isSome) = true)
    (hp : partsRel F μ (fun i => (fs.map fun f => (f.offset, (sizeT P f.type).getD 0))[i]?) vp parts.toList) (h : fillV z vp = some cs) :
    ∃ v, (Instr.build t parts).run P w = .ok v w ∧ rel F μ (.agg cs) v := by
  obtain ⟨i, v, hi, hv, hc⟩ := zeroT_spec hz
  have hm := mapM_sizes (w := w) fs.toList hall
  have hm' : (fs.mapM (fun f => do pure (f.offset, ← sizeOf f.type)) : Sem (Array (Nat × Nat))).run P w = .ok (fs.map fun f => (f.offset, (sizeT P f.type).getD 0)) w := by
    rw [Array.mapM_eq_mapM_toList]
    simp only [Sem.run_map, hm, Result.andThen_ok]
    congr 1
    apply Array.ext'; simp
  obtain ⟨cells', hf, hr⟩ := run_fill (cells := v.cells) (hc F μ) hp h
  refine ⟨.agg cells', ?_, by simp only [rel]; exact ⟨cells'.toList, by simp, hr⟩⟩
  simp only [Instr.build, Sem.run_bind, zeroValue, typeInfo, run_program, Result.andThen_ok, hi, hv, Sem.run_pure, run_underlying hu, hm', hf]

theorem run_build_array {t e : TypeId} {len n : Nat} {z cs : List V} {vp : List (Nat × Nat × V)} {parts : Array (Nat × Value)} (hu : P.underlying t = some (.array len e)) (hz : zeroT P t = some z) (hn : sizeT P e = some n)
    (hp : partsRel F μ (fun i => some (i * n, n)) vp parts.toList) (h : fillV z vp = some cs) :
    ∃ v, (Instr.build t parts).run P w = .ok v w ∧ rel F μ (.agg cs) v := by
  obtain ⟨i, v, hi, hv, hc⟩ := zeroT_spec hz
  obtain ⟨cells', hf, hr⟩ := run_fill (cells := v.cells) (hc F μ) hp h
  refine ⟨.agg cells', ?_, by simp only [rel]; exact ⟨cells'.toList, by simp, hr⟩⟩
  simp only [Instr.build, Sem.run_bind, zeroValue, typeInfo, run_program, Result.andThen_ok, hi, hv, Sem.run_pure, run_underlying hu, run_sizeOf' hn, hf]

end
end Go.Ev
