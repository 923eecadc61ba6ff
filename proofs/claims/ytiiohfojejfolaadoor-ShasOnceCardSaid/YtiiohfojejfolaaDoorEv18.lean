/-
  Calls: what a callee's contract says, said with the caller's names.
-/
import Derived.Test.YtiiohfojejfolaaDoorEv17
set_option linter.unusedVariables false
set_option linter.unusedSimpArgs false
namespace Go.Ev
open Go

section
variable {P : Program} {w : World} {F : Frz} {μ : Mu} {σ : Store}

mutual
theorem rel_ren {μ' : Mu} {f : Key → Key} : ∀ (v : V) (u : Value), (∀ k h, k ∈ v.keys → μ k = some h → μ' (f k) = some h) → rel F μ v u → rel F μ' (v.ren f) u
  | .undef, _, _, _ => by simp [V.ren, rel]
  | .bool _, _, _, h => by simpa [V.ren, rel] using h
  | .int .., _, _, h => by simpa [V.ren, rel] using h
  | .str _, _, _, h => by simpa [V.ren, rel] using h
  | .nil, _, _, h => by simpa [V.ren, rel] using h
  | .ptr k o, u, hk, h => by
    simp only [V.ren, rel] at h ⊢
    obtain ⟨b, hb, hu⟩ := h
    exact ⟨b, hk k _ (by simp [V.keys]) hb, hu⟩
  | .elem cs, u, _, h => by simpa only [V.ren, rel] using h
  | .slc e xs own, u, hk, h => by
    cases own with
    | none => simpa only [V.ren, rel, ownRel] using h
    | nn => simpa only [V.ren, rel, ownRel] using h
    | tight => simpa only [V.ren, rel, ownRel] using h
    | tok k s =>
      simp only [V.ren, rel] at h ⊢
      obtain ⟨base, cap, hu, hb, ho⟩ := h
      refine ⟨base, cap, hu, hb, ?_⟩
      obtain ⟨h1, b, pos, r, e', n, hh, h2⟩ := ho
      exact ⟨h1, b, pos, r, e', n, hk k _ (by simp [V.keys]) hh, h2⟩
  | .nilslc, _, _, h => by simpa [V.ren, rel] using h
  | .view k e o l c, u, hk, h => by
    simp only [V.ren, rel] at h ⊢
    obtain ⟨b, hb, hu⟩ := h
    exact ⟨b, hk k _ (by simp [V.keys]) hb, hu⟩
  | .map k, u, hk, h => by
    simp only [V.ren, rel] at h ⊢
    obtain ⟨b, hb, hu⟩ := h
    exact ⟨b, hk k _ (by simp [V.keys]) hb, hu⟩
  | .nilmap, _, _, h => by simpa [V.ren, rel] using h
  | .func fn a c, u, hk, h => by
    simp only [V.ren, rel] at h ⊢
    obtain ⟨a', c', hu, h1, h2⟩ := h
    exact ⟨a', c', hu, rels_ren a _ (fun k hh hm => hk k hh (by simp [V.keys, hm])) h1, rels_ren c _ (fun k hh hm => hk k hh (by simp [V.keys, hm])) h2⟩
  | .nilfunc, _, _, h => by simpa [V.ren, rel] using h
  | .iface t x, u, hk, h => by
    simp only [V.ren, rel] at h ⊢
    obtain ⟨u', hu, hx⟩ := h
    exact ⟨u', hu, rel_ren x _ (fun k hh hm => hk k hh (by simpa [V.keys] using hm)) hx⟩
  | .nilIface, _, _, h => by simpa [V.ren, rel] using h
  | .agg cs, u, hk, h => by
    simp only [V.ren, rel] at h ⊢
    obtain ⟨us, hu, hc⟩ := h
    exact ⟨us, hu, rels_ren cs _ (fun k hh hm => hk k hh (by simpa [V.keys] using hm)) hc⟩
  | .tuple cs, u, hk, h => by
    simp only [V.ren, rel] at h ⊢
    obtain ⟨us, hu, hc⟩ := h
    exact ⟨us, hu, rels_ren cs _ (fun k hh hm => hk k hh (by simpa [V.keys] using hm)) hc⟩
theorem rels_ren {μ' : Mu} {f : Key → Key} : ∀ (vs : List V) (us : List Value), (∀ k h, k ∈ V.keyss vs → μ k = some h → μ' (f k) = some h) → rels F μ vs us → rels F μ' (V.rens f vs) us
  | [], _, _, h => by simpa [V.rens, rels] using h
  | v :: r, us, hk, h => by
    simp only [V.rens, rels] at h ⊢
    obtain ⟨u, us', hu, hv, hr⟩ := h
    exact ⟨u, us', hu, rel_ren v _ (fun k hh hm => hk k hh (by simp [V.keyss, hm])) hv, rels_ren r _ (fun k hh hm => hk k hh (by simp [V.keyss, hm])) hr⟩
end

theorem mapRel_ren {μ' : Mu} {f : Key → Key} : ∀ {es : List (V × V)} {l : List MapEntry}, (∀ k h, k ∈ (Obj.map es).keys → μ k = some h → μ' (f k) = some h) → mapRel F μ es l →
    mapRel F μ' (es.map fun (k, v) => (k.ren f, v.ren f)) l
  | [], _, _, h => h
  | (k, v) :: r, _, hk, h => by
    obtain ⟨e, es', rfl, h1, h2, hr⟩ := h
    refine ⟨e, es', rfl, ?_, rel_ren v _ (fun k' hh hm => hk k' hh (by simp [Obj.keys, hm])) h2, mapRel_ren (fun k' hh hm => hk k' hh (by simp [Obj.keys] at hm ⊢; exact .inr (.inr hm))) hr⟩
    exact rel_ren (μ := noMu) k _ (fun k' hh _ hn => by simp [noMu] at hn) h1

theorem objRel_ren {μ' : Mu} {f : Key → Key} {o : Obj} {h : Hd} (hk : ∀ k h, k ∈ o.keys → μ k = some h → μ' (f k) = some h) (hr : objRel F μ w o h) : objRel F μ' w (o.ren f) h := by
  cases o with
  | cells cs =>
    cases h with
    | blk b => obtain ⟨us, ty, hw, hc, hn⟩ := hr; exact ⟨us, ty, hw, rels_ren cs _ hk hc, hn⟩
    | spare => exact hr.elim
  | map es =>
    cases h with
    | blk b => obtain ⟨ents, clock, hw, hc⟩ := hr; exact ⟨ents, clock, hw, mapRel_ren hk hc⟩
    | spare => exact hr.elim
  | tok n =>
    cases h with
    | blk b => exact hr.elim
    | spare => exact hr

/-! ### the contract -/
def Holds (P : Program) (G : Globals) (f : FuncId) (c : Contract) : Prop :=
  ∀ (args : List V) (objs : List Obj) (r : V) (os ns : List Obj), c args objs = some (r, os, ns) → os.length = objs.length →
    ∀ (F : Frz) (μ : Mu) (w : World) (us : List Value), (∀ g cs, G.get g = some cs → frz F g 0 cs) → Inv F μ (argObjs 0 objs) w → rels F μ args us →
      Calls P f us.toArray w fun e w' => ∃ u F' μ', e = .returned u ∧ Inv F' μ' (argObjs 0 (os ++ ns)) w' ∧ Ext μ F w μ' F' w' ∧ μ.le μ' ∧ rel F' μ' r u

/-- A call, or what is done in its place: a function of the machine's own, without a body. -/
def CallsX (P : Program) (f : FuncId) (us : Array Value) (w : World) (Q : Ending → World → Prop) : Prop :=
  (Calls P f us w Q ∧ (callFunc f us).run P w = .ok (.enter f us) w) ∨ ∃ u w', (callFunc f us).run P w = .ok (.value u) w' ∧ Q (.returned u) w'

theorem CallsX.mono {f : FuncId} {us : Array Value} {Q Q' : Ending → World → Prop} (h : CallsX P f us w Q) (hq : ∀ e w', Q e w' → Q' e w') : CallsX P f us w Q' := by
  rcases h with ⟨h, h1⟩ | ⟨u, w', h1, h2⟩
  · exact .inl ⟨h.mono hq, h1⟩
  · exact .inr ⟨u, w', h1, hq _ _ h2⟩

def HoldsX (P : Program) (G : Globals) (f : FuncId) (c : Contract) : Prop :=
  ∀ (args : List V) (objs : List Obj) (r : V) (os ns : List Obj), c args objs = some (r, os, ns) → os.length = objs.length →
    ∀ (F : Frz) (μ : Mu) (w : World) (us : List Value), (∀ g cs, G.get g = some cs → frz F g 0 cs) → Inv F μ (argObjs 0 objs) w → rels F μ args us →
      CallsX P f us.toArray w fun e w' => ∃ u F' μ', e = .returned u ∧ Inv F' μ' (argObjs 0 (os ++ ns)) w' ∧ Ext μ F w μ' F' w' ∧ μ.le μ' ∧ rel F' μ' r u

structure Sound (P : Program) (G : Globals) (C : FuncId → Option Contract) : Prop where
  holds : ∀ f c, C f = some c → HoldsX P G f c

theorem argObjs_get : ∀ (objs : List Obj) (i : Nat) (k : Key), (argObjs i objs).get k = match k with | .arg j => if i ≤ j then objs[j - i]? else none | .loc _ _ => none
  | [], i, k => by cases k <;> simp [argObjs, Store.get]
  | o :: r, i, k => by
    simp only [argObjs, Store.get]
    rw [argObjs_get r (i + 1) k]
    cases k with
    | loc s j => simp
    | arg j =>
      by_cases h : i = j
      · subst h; simp
      · simp only [Key.arg.injEq, h, if_false]
        by_cases h2 : i ≤ j
        · have : j - i = (j - (i + 1)) + 1 := by omega
          simp only [show i + 1 ≤ j by omega, if_true, h2]
          rw [this]; simp
        · simp [h2, show ¬ i + 1 ≤ j by omega]

theorem argObjs_get0 (objs : List Obj) (j : Nat) : (argObjs 0 objs).get (.arg j) = objs[j]? := by rw [argObjs_get]; simp

theorem reach_run : ∀ (n : Nat) (todo : List Key) (acc : List (Key × Obj)) {l l' : List Key} {res : List (Key × Obj)}, (reach n todo acc).run σ l = some (res, l') → (∀ p ∈ acc, σ.get p.1 = some p.2) → ∀ p ∈ res, σ.get p.1 = some p.2
  | n, [], acc, l, l', res, h, ha => by
    unfold reach at h
    simp only [Act.run, Option.some.injEq, Prod.mk.injEq] at h
    rw [← h.1]; exact ha
  | 0, k :: todo, acc, l, l', res, h, ha => by simp [reach, Act.run] at h
  | n + 1, k :: todo, acc, l, l', res, h, ha => by
    simp only [reach] at h
    split at h
    · exact reach_run n todo acc h ha
    · obtain ⟨o, ho, h⟩ := get_run h
      refine reach_run n _ _ h fun p hp => ?_
      rcases List.mem_append.1 hp with hp | hp
      · exact ha p hp
      · simp only [List.mem_singleton] at hp; subst hp; exact ho

theorem findIdxKey_spec : ∀ {ks : List Key} {k : Key} {i j : Nat}, findIdxKey k ks i = some j → i ≤ j ∧ ks[j - i]? = some k
  | [], k, i, j, h => by simp [findIdxKey] at h
  | k' :: r, k, i, j, h => by
    simp only [findIdxKey] at h
    split at h
    · rename_i he; cases h; simp [he]
    · obtain ⟨h1, h2⟩ := findIdxKey_spec h
      refine ⟨by omega, ?_⟩
      have : j - i = (j - (i + 1)) + 1 := by omega
      rw [this]; simpa using h2

theorem findIdxKey_mem : ∀ {ks : List Key} {k : Key} (i : Nat), k ∈ ks → ∃ j, findIdxKey k ks i = some j
  | k' :: r, k, i, h => by
    simp only [findIdxKey]
    split
    · exact ⟨i, rfl⟩
    · rename_i hne
      rcases List.mem_cons.1 h with rfl | h
      · exact absurd rfl hne
      · exact findIdxKey_mem (i + 1) h

theorem nodup_idx {ks : List Key} (hn : ks.Nodup) {i j : Nat} {k : Key} (hi : ks[i]? = some k) (hj : ks[j]? = some k) : i = j := by
  obtain ⟨h1, e1⟩ := List.getElem?_eq_some_iff.1 hi
  obtain ⟨h2, e2⟩ := List.getElem?_eq_some_iff.1 hj
  have hp := List.pairwise_iff_getElem.1 hn
  rcases Nat.lt_trichotomy i j with h | h | h
  · exact absurd (e1.trans e2.symm) (hp i j h1 h2 h)
  · exact h
  · exact absurd (e2.trans e1.symm) (hp j i h2 h1 h)

/-- A handle apart from all that may be written: its block is as it was. -/
theorem Ext.apart_block {μc μc' : Mu} {F' : Frz} {w' : World} (x : Ext μc F w μc' F' w') {h : Hd} (hd : ∀ k' h', μc k' = some h' → h.disj h') {b : Nat} (hb : h = .blk b ∨ ∃ p r e n, h = .spare b p r e n ∧ r ≠ 0) (hlt : b < w.heap.size) :
    w'.heap[b]? = w.heap[b]? ∧ ∀ off u, (h = .blk b ∨ ∃ p r e n, h = .spare b p r e n ∧ p ≤ off ∧ off < p + r * e) → F' ⟨b, off, none⟩ = some u → F ⟨b, off, none⟩ = some u := by
  have nofoot : ∀ off, ¬ InFoot μc ⟨b, off, none⟩ := fun off hf => by
    rcases hf with ⟨k, hk⟩ | ⟨k, p, r, e, n, hk, h1, h2⟩
    · have := hd k _ hk
      rcases hb with rfl | ⟨p, r, e, n, rfl, h0⟩
      · exact this rfl
      · rcases this with h | h
        · exact h0 h
        · exact h rfl
    · have hr : r ≠ 0 := by rintro rfl; simp at h1 h2; omega
      have := hd k _ hk
      rcases hb with rfl | ⟨p', r', e', n', rfl, h0⟩
      · rcases this with h | h
        · exact hr h
        · exact h rfl
      · rcases this with h | h | h
        · exact h0 h
        · exact hr h
        · exact h rfl
  refine ⟨?_, fun off u _ hq => ?_⟩
  · rcases x.keep b hlt with ⟨k, hk⟩ | h | ⟨us, us', ty, hw, hw', hl, ho⟩
    · exact absurd (.inl ⟨k, hk⟩) (nofoot 0)
    · exact h
    · have : us' = us := List.ext_getElem? fun i => ho i (nofoot i)
      subst this
      exact hw'.trans hw.symm
  · rcases x.fresh _ u hq with h | h | h
    · exact h
    · simp at h; omega
    · exact absurd h (nofoot off)

theorem news_run : ∀ {ns : List Obj} {dst j : Nat} {a : Act Ans} {l : List Key} {r : Ans × List Key}, (news dst j ns a).run σ l = some r → (∀ i, j ≤ i → i < j + ns.length → σ.get (.loc dst i) = none) ∧ ∃ l', a.run σ l' = some r
  | [], dst, j, a, l, r, h => ⟨fun i h1 h2 => by simp at h2; omega, l, h⟩
  | o :: ns, dst, j, a, l, r, h => by
    simp only [news] at h
    obtain ⟨hk, h⟩ := new_run h
    obtain ⟨h1, h2⟩ := news_run h
    refine ⟨fun i g1 g2 => ?_, h2⟩
    by_cases he : i = j
    · subst he; exact hk
    · exact h1 i (by omega) (by simp at g2; omega)

/-- The store behind a call. -/
theorem puts_get : ∀ (up : List (Key × Obj)) (s : Store) (k : Key), (up.map (·.1)).Nodup → (s.puts up).get k = match up.find? (fun p => p.1 = k) with | some p => some p.2 | none => s.get k
  | [], s, k, _ => rfl
  | (k', o) :: r, s, k, hn => by
    simp only [List.map_cons, List.nodup_cons] at hn
    simp only [Store.puts]
    rw [puts_get r _ k hn.2, Store.get_put]
    simp only [List.find?_cons]
    by_cases h : k' = k
    · subst h
      have : r.find? (fun p => p.1 = k') = none := by
        rw [List.find?_eq_none]
        intro p hp hh
        simp at hh
        exact hn.1 (List.mem_map.2 ⟨p, hp, hh⟩)
      simp [this]
    · simp only [h, decide_false, if_false]

/-- The caller's map behind a call. -/
def muOut (μ μc' : Mu) (ks : List Key) (dst m : Nat) : Mu := fun k =>
  match findIdxKey k ks 0 with
  | some i => μc' (.arg i)
  | none => match k with
    | .loc s j => if s = dst ∧ j < m then μc' (.arg (ks.length + j)) else μ k
    | .arg _ => μ k

def muIn (μ : Mu) (ks : List Key) : Mu := fun k =>
  match k with
  | .arg i => (ks[i]?).bind μ
  | .loc _ _ => none

theorem muIn_inKey {ks : List Key} {k : Key} {h : Hd} (hk : k ∈ ks) (hm : μ k = some h) : muIn μ ks (inKey ks k) = some h := by
  obtain ⟨j, hj⟩ := findIdxKey_mem 0 hk
  obtain ⟨_, h2⟩ := findIdxKey_spec hj
  simp only [inKey, hj, muIn]
  simp at h2
  simp [h2, hm]

theorem Born.weaken {μc : Mu} {h : Hd} (hb : Born μc w h) (hsub : ∀ k h, μc k = some h → ∃ k', μ k' = some h) : Born μ w h := by
  cases h with
  | blk b =>
    rcases hb with h | ⟨k, hk⟩
    · exact .inl h
    · obtain ⟨k', hk'⟩ := hsub k _ hk; exact .inr ⟨k', hk'⟩
  | spare b p r e n =>
    rcases hb with h | h | ⟨k, p0, r0, e0, n0, hk, h1, h2⟩
    · exact .inl h
    · exact .inr (.inl h)
    · obtain ⟨k', hk'⟩ := hsub k _ hk; exact .inr (.inr ⟨k', p0, r0, e0, n0, hk', h1, h2⟩)

theorem InFoot.weaken {μc : Mu} {a : Addr} (hb : InFoot μc a) (hsub : ∀ k h, μc k = some h → ∃ k', μ k' = some h) : InFoot μ a := by
  rcases hb with ⟨k, hk⟩ | ⟨k, p, r, e, n, hk, h1, h2⟩
  · obtain ⟨k', hk'⟩ := hsub k _ hk; exact .inl ⟨k', hk'⟩
  · obtain ⟨k', hk'⟩ := hsub k _ hk; exact .inr ⟨k', p, r, e, n, hk', h1, h2⟩

theorem Ext.weaken {μc μc' μ' : Mu} {F' : Frz} {w' : World} (x : Ext μc F w μc' F' w') (hsub : ∀ k h, μc k = some h → ∃ k', μ k' = some h) (hd : ∀ k h, μ' k = some h → Born μ w h) : Ext μ F w μ' F' w' where
  le := x.le
  size := x.size
  keep := fun b hb => by
    rcases x.keep b hb with ⟨k, hk⟩ | h | ⟨us, us', ty, hw, hw', hl, ho⟩
    · obtain ⟨k', hk'⟩ := hsub k _ hk; exact .inl ⟨k', hk'⟩
    · exact .inr (.inl h)
    · exact .inr (.inr ⟨us, us', ty, hw, hw', hl, fun off hoff => ho off fun hf => hoff (hf.weaken hsub)⟩)
  os := x.os
  out := x.out
  fresh := fun a u h => by
    rcases x.fresh a u h with h | h | h
    · exact .inl h
    · exact .inr (.inl h)
    · exact .inr (.inr (h.weaken hsub))
  hd := hd

/-- A handle that comes of one that was handed in, or is new, is apart from whatever was apart from all that was handed in. -/
theorem Born.disj {μc μ2 : Mu} {F2 : Frz} {w2 : World} {h h' : Hd} {o o2 : Obj} (hb : Born μc w h) (ho2 : objRel F2 μ2 w2 o2 h) (ho : objRel F μ w o h') (hd : ∀ k g, μc k = some g → h'.disj g) : h'.disj h := by
  have hlt := objRel_lt ho
  have hz : ∀ b p r e n, h = .spare b p r e n → r * e = 0 → r = 0 := fun b p r e n hh hre => by
    subst hh
    cases o2 with
    | cells => exact ho2.elim
    | map => exact ho2.elim
    | tok n' =>
      rcases ho2.2 with h | ⟨h, _⟩
      · exact h
      · rcases Nat.mul_eq_zero.1 hre with h' | h'
        · exact h'
        · omega
  cases h with
  | blk b =>
    rcases hb with hb | ⟨k, hk⟩
    · cases h' with
      | blk b' => have := hlt b' (.inl rfl); simp only [Hd.disj]; omega
      | spare b' p r e n =>
        simp only [Hd.disj]
        by_cases h0 : r = 0
        · exact .inl h0
        · have := hlt b' (.inr ⟨p, r, e, n, rfl, h0⟩); omega
    · exact hd k _ hk
  | spare b p r e n =>
    rcases hb with hb | hb | ⟨k, p0, r0, e0, n0, hk, h1, h2⟩
    · have := hz _ _ _ _ _ rfl hb
      cases h' <;> simp only [Hd.disj] <;> simp [this]
    · cases h' with
      | blk b' => have := hlt b' (.inl rfl); simp only [Hd.disj]; omega
      | spare b' p' r' e' n' =>
        simp only [Hd.disj]
        by_cases h0 : r' = 0
        · exact .inl h0
        · have := hlt b' (.inr ⟨p', r', e', n', rfl, h0⟩); omega
    · have hzero : r0 = 0 → r = 0 := fun h => by
        subst h
        exact hz _ _ _ _ _ rfl (by omega)
      have := hd k _ hk
      cases h' with
      | blk b' =>
        simp only [Hd.disj] at this ⊢
        rcases this with h | h
        · exact .inl (hzero h)
        · exact .inr h
      | spare b' p' r' e' n' =>
        simp only [Hd.disj] at this ⊢
        rcases this with h | h | h
        · exact .inl h
        · exact .inr (.inl (hzero h))
        · exact .inr (.inr h)

end
end Go.Ev
