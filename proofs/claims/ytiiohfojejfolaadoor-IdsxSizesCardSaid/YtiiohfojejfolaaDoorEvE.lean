/-
  The evaluator, part E. Calls: what a callee's contract says, said with the caller's names. A call, by the callee's contract. One operation's step, and regions in the order of the text. Operations in any order: what each one reads and writes, and that two which are apart may change places.
-/
import Derived.Test.YtiiohfojejfolaaDoorEvD
import Derived.Tactics
set_option linter.unusedVariables false
set_option linter.unusedSimpArgs false
namespace Go.Ev
open Go

section
variable {P : Program} {w : World} {F : Frz} {μ : Mu} {σ : Store}

mutual
theorem rel_ren {μ' : Mu} {f : Key → Key} : ∀ (v : V) (u : Value), (∀ k h, k ∈ v.keys → μ k = some h → μ' (f k) = some h) → rel F μ v u → rel F μ' (v.ren f) u
  | .undef, _, _, _ => by simp [V.ren, rel]
  | .bool _, _, _, h => by simpa [V.ren, rel] using h
  | .int .., _, _, h => by simpa [V.ren, rel] using h
  | .str _, _, _, h => by simpa [V.ren, rel] using h
  | .nil, _, _, h => by simpa [V.ren, rel] using h
  | .ptr k o, u, hk, h => by
    simp only [V.ren, rel] at h ⊢
    obtain ⟨b, hb, hu⟩ := h
    exact ⟨b, hk k _ (by simp [V.keys]) hb, hu⟩
  | .elem cs, u, _, h => by simpa only [V.ren, rel] using h
  | .slc e xs own, u, hk, h => by
    cases own with
    | none => simpa only [V.ren, rel, ownRel] using h
    | nn => simpa only [V.ren, rel, ownRel] using h
    | tight => simpa only [V.ren, rel, ownRel] using h
    | tok k s =>
      simp only [V.ren, rel] at h ⊢
      obtain ⟨base, cap, hu, hb, ho⟩ := h
      refine ⟨base, cap, hu, hb, ?_⟩
      obtain ⟨h1, b, pos, r, e', n, hh, h2⟩ := ho
      exact ⟨h1, b, pos, r, e', n, hk k _ (by simp [V.keys]) hh, h2⟩
  | .nilslc, _, _, h => by simpa [V.ren, rel] using h
  | .view k e o l c, u, hk, h => by
    simp only [V.ren, rel] at h ⊢
    obtain ⟨b, hb, hu⟩ := h
    exact ⟨b, hk k _ (by simp [V.keys]) hb, hu⟩
  | .rowv k e o l, u, hk, h => by
    simp only [V.ren, rel] at h ⊢
    obtain ⟨hu, hd, q, hb, hq, hr⟩ := h
    exact ⟨hu, hd, q, hk k _ (by simp [V.keys]) hb, hq, hr⟩
  | .rptr k o, u, hk, h => by
    simp only [V.ren, rel] at h ⊢
    obtain ⟨hu, hd, q, hb, hq, hr⟩ := h
    exact ⟨hu, hd, q, hk k _ (by simp [V.keys]) hb, hq, hr⟩
  | .map k, u, hk, h => by
    simp only [V.ren, rel] at h ⊢
    obtain ⟨b, hb, hu⟩ := h
    exact ⟨b, hk k _ (by simp [V.keys]) hb, hu⟩
  | .nilmap, _, _, h => by simpa [V.ren, rel] using h
  | .func fn a c, u, hk, h => by
    simp only [V.ren, rel] at h ⊢
    obtain ⟨a', c', hu, h1, h2⟩ := h
    exact ⟨a', c', hu, rels_ren a _ (fun k hh hm => hk k hh (by simp [V.keys, hm])) h1, rels_ren c _ (fun k hh hm => hk k hh (by simp [V.keys, hm])) h2⟩
  | .nilfunc, _, _, h => by simpa [V.ren, rel] using h
  | .iface t x, u, hk, h => by
    simp only [V.ren, rel] at h ⊢
    obtain ⟨u', hu, hx⟩ := h
    exact ⟨u', hu, rel_ren x _ (fun k hh hm => hk k hh (by simpa [V.keys] using hm)) hx⟩
  | .nilIface, _, _, h => by simpa [V.ren, rel] using h
  | .agg cs, u, hk, h => by
    simp only [V.ren, rel] at h ⊢
    obtain ⟨us, hu, hc⟩ := h
    exact ⟨us, hu, rels_ren cs _ (fun k hh hm => hk k hh (by simpa [V.keys] using hm)) hc⟩
  | .tuple cs, u, hk, h => by
    simp only [V.ren, rel] at h ⊢
    obtain ⟨us, hu, hc⟩ := h
    exact ⟨us, hu, rels_ren cs _ (fun k hh hm => hk k hh (by simpa [V.keys] using hm)) hc⟩
theorem rels_ren {μ' : Mu} {f : Key → Key} : ∀ (vs : List V) (us : List Value), (∀ k h, k ∈ V.keyss vs → μ k = some h → μ' (f k) = some h) → rels F μ vs us → rels F μ' (V.rens f vs) us
  | [], _, _, h => by simpa [V.rens, rels] using h
  | v :: r, us, hk, h => by
    simp only [V.rens, rels] at h ⊢
    obtain ⟨u, us', hu, hv, hr⟩ := h
    exact ⟨u, us', hu, rel_ren v _ (fun k hh hm => hk k hh (by simp [V.keyss, hm])) hv, rels_ren r _ (fun k hh hm => hk k hh (by simp [V.keyss, hm])) hr⟩
end

theorem mapRel_ren {μ' : Mu} {f : Key → Key} : ∀ {es : List (V × V)} {l : List MapEntry}, (∀ k h, k ∈ (Obj.map es).keys → μ k = some h → μ' (f k) = some h) → mapRel F μ es l →
    mapRel F μ' (es.map fun (k, v) => (k.ren f, v.ren f)) l
  | [], _, _, h => h
  | (k, v) :: r, _, hk, h => by
    obtain ⟨e, es', rfl, h1, h2, hr⟩ := h
    refine ⟨e, es', rfl, ?_, rel_ren v _ (fun k' hh hm => hk k' hh (by simp [Obj.keys, hm])) h2, mapRel_ren (fun k' hh hm => hk k' hh (by simp [Obj.keys] at hm ⊢; exact .inr (.inr hm))) hr⟩
    exact rel_ren (μ := noMu) k _ (fun k' hh _ hn => by simp [noMu] at hn) h1

theorem rens_length (f : Key → Key) : ∀ (cs : List V), (V.rens f cs).length = cs.length
  | [] => rfl
  | c :: r => by simp [V.rens, rens_length f r]

theorem objRel_ren {μ' : Mu} {f : Key → Key} {o : Obj} {h : Hd} (hk : ∀ k h, k ∈ o.keys → μ k = some h → μ' (f k) = some h) (hr : objRel F μ w o h) : objRel F μ' w (o.ren f) h := by
  cases o with
  | cells cs =>
    cases h with
    | blk b t =>
      cases t with
      | none => obtain ⟨us, ty, hw, hc, hn⟩ := hr; exact ⟨us, ty, hw, rels_ren cs _ hk hc, hn⟩
      | some s => exact hr.elim
    | spare => exact hr.elim
    | idle => exact hr.elim
  | map es =>
    cases h with
    | blk b t =>
      cases t with
      | none => obtain ⟨ents, clock, hw, hc⟩ := hr; exact ⟨ents, clock, hw, mapRel_ren hk hc⟩
      | some s => exact hr.elim
    | spare => exact hr.elim
    | idle => exact hr.elim
  | tok n =>
    cases h with
    | blk b t => cases t <;> exact hr.elim
    | spare => exact hr
    | idle => exact hr.elim
  | row cs =>
    cases h with
    | blk b t =>
      cases t with
      | none => exact hr.elim
      | some s =>
        obtain ⟨us, ty, hw, h1, h2, hc, hn⟩ := hr
        have hl : (V.rens f cs).length = cs.length := rens_length f cs
        refine ⟨us, ty, hw, h1, by rw [hl]; exact h2, ?_, hn⟩
        rw [hl]; exact rels_ren cs _ hk hc
    | spare => exact hr.elim
    | idle => exact hr.elim
  | froz cs =>
    cases h with
    | blk b t => cases t <;> exact hr.elim
    | spare => exact hr.elim
    | idle o => cases o with
      | none => exact hr.elim
      | some p => exact hr
  | dead =>
    cases h with
    | blk b t => cases t <;> exact hr.elim
    | spare => exact hr.elim
    | idle o => trivial

/-! ### the contract -/
def Holds (P : Program) (G : Globals) (f : FuncId) (c : Contract) : Prop :=
  ∀ (args : List V) (objs : List Obj) (r : V) (os ns : List Obj), c args objs = some (r, os, ns) → os.length = objs.length →
    ∀ (F : Frz) (μ : Mu) (w : World) (us : List Value), (∀ g cs, G.get g = some cs → frz F g 0 cs) → Inv F μ (argObjs 0 objs) w → rels F μ args us →
      Calls P f us.toArray w fun e w' => ∃ u F' μ', e = .returned u ∧ Inv F' μ' (argObjs 0 (os ++ ns)) w' ∧ Ext μ F w μ' F' w' ∧ μ.le μ' ∧ rel F' μ' r u

/-- A call, or what is done in its place: a function of the machine's own, without a body. -/
def CallsX (P : Program) (f : FuncId) (us : Array Value) (w : World) (Q : Ending → World → Prop) : Prop :=
  (Calls P f us w Q ∧ (callFunc f us).run P w = .ok (.enter f us) w) ∨ ∃ u w', (callFunc f us).run P w = .ok (.value u) w' ∧ Q (.returned u) w'

theorem CallsX.mono {f : FuncId} {us : Array Value} {Q Q' : Ending → World → Prop} (h : CallsX P f us w Q) (hq : ∀ e w', Q e w' → Q' e w') : CallsX P f us w Q' := by
  rcases h with ⟨h, h1⟩ | ⟨u, w', h1, h2⟩
  · exact .inl ⟨h.mono hq, h1⟩
  · exact .inr ⟨u, w', h1, hq _ _ h2⟩

def HoldsX (P : Program) (G : Globals) (f : FuncId) (c : Contract) : Prop :=
  ∀ (args : List V) (objs : List Obj) (r : V) (os ns : List Obj), c args objs = some (r, os, ns) → os.length = objs.length →
    ∀ (F : Frz) (μ : Mu) (w : World) (us : List Value), (∀ g cs, G.get g = some cs → frz F g 0 cs) → Inv F μ (argObjs 0 objs) w → rels F μ args us →
      CallsX P f us.toArray w fun e w' => ∃ u F' μ', e = .returned u ∧ Inv F' μ' (argObjs 0 (os ++ ns)) w' ∧ Ext μ F w μ' F' w' ∧ μ.le μ' ∧ rel F' μ' r u

structure Sound (P : Program) (G : Globals) (C : FuncId → Option Contract) : Prop where
  holds : ∀ f c, C f = some c → HoldsX P G f c

theorem argObjs_get : ∀ (objs : List Obj) (i : Nat) (k : Key), (argObjs i objs).get k = match k with | .arg j => if i ≤ j then objs[j - i]? else none | .loc _ _ => none
  | [], i, k => by cases k <;> simp [argObjs, Store.get]
  | o :: r, i, k => by
    simp only [argObjs, Store.get]
    rw [argObjs_get r (i + 1) k]
    cases k with
    | loc s j => simp
    | arg j =>
      by_cases h : i = j
      · subst h; simp
      · simp only [Key.arg.injEq, h, if_false]
        by_cases h2 : i ≤ j
        · have : j - i = (j - (i + 1)) + 1 := by omega
          simp only [show i + 1 ≤ j by omega, if_true, h2]
          rw [this]; simp
        · simp [h2, show ¬ i + 1 ≤ j by omega]

theorem argObjs_get0 (objs : List Obj) (j : Nat) : (argObjs 0 objs).get (.arg j) = objs[j]? := by rw [argObjs_get]; simp

theorem reach_run : ∀ (n : Nat) (todo : List Key) (acc : List (Key × Obj)) {l l' : List Key} {res : List (Key × Obj)}, (reach n todo acc).run σ l = some (res, l') → (∀ p ∈ acc, σ.get p.1 = some p.2) → ∀ p ∈ res, σ.get p.1 = some p.2
  | n, [], acc, l, l', res, h, ha => by
    unfold reach at h
    simp only [Act.run, Option.some.injEq, Prod.mk.injEq] at h
    rw [← h.1]; exact ha
  | 0, k :: todo, acc, l, l', res, h, ha => by simp [reach, Act.run] at h
  | n + 1, k :: todo, acc, l, l', res, h, ha => by
    simp only [reach] at h
    split at h
    · exact reach_run n todo acc h ha
    · obtain ⟨o, ho, h⟩ := get_run h
      refine reach_run n _ _ h fun p hp => ?_
      rcases List.mem_append.1 hp with hp | hp
      · exact ha p hp
      · simp only [List.mem_singleton] at hp; subst hp; exact ho

theorem findIdxKey_spec : ∀ {ks : List Key} {k : Key} {i j : Nat}, findIdxKey k ks i = some j → i ≤ j ∧ ks[j - i]? = some k
  | [], k, i, j, h => by simp [findIdxKey] at h
  | k' :: r, k, i, j, h => by
    simp only [findIdxKey] at h
    split at h
    · rename_i he; cases h; simp [he]
    · obtain ⟨h1, h2⟩ := findIdxKey_spec h
      refine ⟨by omega, ?_⟩
      have : j - i = (j - (i + 1)) + 1 := by omega
      rw [this]; simpa using h2

theorem findIdxKey_mem : ∀ {ks : List Key} {k : Key} (i : Nat), k ∈ ks → ∃ j, findIdxKey k ks i = some j
  | k' :: r, k, i, h => by
    simp only [findIdxKey]
    split
    · exact ⟨i, rfl⟩
    · rename_i hne
      rcases List.mem_cons.1 h with rfl | h
      · exact absurd rfl hne
      · exact findIdxKey_mem (i + 1) h

theorem nodup_idx {ks : List Key} (hn : ks.Nodup) {i j : Nat} {k : Key} (hi : ks[i]? = some k) (hj : ks[j]? = some k) : i = j := by
  obtain ⟨h1, e1⟩ := List.getElem?_eq_some_iff.1 hi
  obtain ⟨h2, e2⟩ := List.getElem?_eq_some_iff.1 hj
  have hp := List.pairwise_iff_getElem.1 hn
  rcases Nat.lt_trichotomy i j with h | h | h
  · exact absurd (e1.trans e2.symm) (hp i j h1 h2 h)
  · exact h
  · exact absurd (e2.trans e1.symm) (hp j i h2 h1 h)

/-- A handle apart from all that may be written: its block is as it was. -/
theorem Ext.apart_block {μc μc' : Mu} {F' : Frz} {w' : World} (x : Ext μc F w μc' F' w') {h : Hd} (hd : ∀ k' h', μc k' = some h' → h.disj h') {b : Nat} (hb : (∃ t, h = .blk b t) ∨ ∃ p r e n, h = .spare b p r e n ∧ r ≠ 0) (hlt : b < w.heap.size) :
    w'.heap[b]? = w.heap[b]? ∧ ∀ off u, ((∃ t, h = .blk b t) ∨ ∃ p r e n, h = .spare b p r e n ∧ p ≤ off ∧ off < p + r * e) → F' ⟨b, off, none⟩ = some u → F ⟨b, off, none⟩ = some u := by
  have nofoot : ∀ off, ¬ InFoot μc ⟨b, off, none⟩ := fun off hf => by
    rcases hf with ⟨k, t, hk⟩ | ⟨k, p, r, e, n, hk, h1, h2⟩
    · have := hd k _ hk
      rcases hb with ⟨_, rfl⟩ | ⟨p, r, e, n, rfl, h0⟩
      · exact this rfl
      · rcases this with h | h
        · exact h0 h
        · exact h rfl
    · have hr : r ≠ 0 := by rintro rfl; simp at h1 h2; omega
      have := hd k _ hk
      rcases hb with ⟨_, rfl⟩ | ⟨p', r', e', n', rfl, h0⟩
      · rcases this with h | h
        · exact hr h
        · exact h rfl
      · rcases this with h | h | h
        · exact h0 h
        · exact hr h
        · exact h rfl
  refine ⟨?_, fun off u _ hq => ?_⟩
  · rcases x.keep b hlt with ⟨k, t, hk⟩ | h | ⟨us, us', ty, hw, hw', hl, ho⟩
    · exact absurd (.inl ⟨k, t, hk⟩) (nofoot 0)
    · exact h
    · have : us' = us := List.ext_getElem? fun i => ho i (nofoot i)
      subst this
      exact hw'.trans hw.symm
  · rcases x.fresh _ u hq with h | h | h
    · exact h
    · simp at h; omega
    · exact absurd h (nofoot off)

theorem news_run : ∀ {ns : List Obj} {dst j : Nat} {a : Act Ans} {l : List Key} {r : Ans × List Key}, (news dst j ns a).run σ l = some r → (∀ i, j ≤ i → i < j + ns.length → σ.get (.loc dst i) = none) ∧ ∃ l', a.run σ l' = some r
  | [], dst, j, a, l, r, h => ⟨fun i h1 h2 => by simp at h2; omega, l, h⟩
  | o :: ns, dst, j, a, l, r, h => by
    simp only [news] at h
    obtain ⟨hk, h⟩ := new_run h
    obtain ⟨h1, h2⟩ := news_run h
    refine ⟨fun i g1 g2 => ?_, h2⟩
    by_cases he : i = j
    · subst he; exact hk
    · exact h1 i (by omega) (by simp at g2; omega)

/-- The store behind a call. -/
theorem puts_get : ∀ (up : List (Key × Obj)) (s : Store) (k : Key), (up.map (·.1)).Nodup → (s.puts up).get k = match up.find? (fun p => p.1 = k) with | some p => some p.2 | none => s.get k
  | [], s, k, _ => rfl
  | (k', o) :: r, s, k, hn => by
    simp only [List.map_cons, List.nodup_cons] at hn
    simp only [Store.puts]
    rw [puts_get r _ k hn.2, Store.get_put]
    simp only [List.find?_cons]
    by_cases h : k' = k
    · subst h
      have : r.find? (fun p => p.1 = k') = none := by
        rw [List.find?_eq_none]
        intro p hp hh
        simp at hh
        exact hn.1 (List.mem_map.2 ⟨p, hp, hh⟩)
      simp [this]
    · simp only [h, decide_false, if_false]

/-- The caller's map behind a call. -/
def muOut (μ μc' : Mu) (ks : List Key) (dst m : Nat) : Mu := fun k =>
  match findIdxKey k ks 0 with
  | some i => μc' (.arg i)
  | none => match k with
    | .loc s j => if s = dst ∧ j < m then μc' (.arg (ks.length + j)) else μ k
    | .arg _ => μ k

def muIn (μ : Mu) (ks : List Key) : Mu := fun k =>
  match k with
  | .arg i => (ks[i]?).bind μ
  | .loc _ _ => none

theorem muIn_inKey {ks : List Key} {k : Key} {h : Hd} (hk : k ∈ ks) (hm : μ k = some h) : muIn μ ks (inKey ks k) = some h := by
  obtain ⟨j, hj⟩ := findIdxKey_mem 0 hk
  obtain ⟨_, h2⟩ := findIdxKey_spec hj
  simp only [inKey, hj, muIn]
  simp at h2
  simp [h2, hm]

theorem Born.weaken {μc : Mu} {h : Hd} (hb : Born μc w h) (hsub : ∀ k h, μc k = some h → ∃ k', μ k' = some h) : Born μ w h := by
  cases h with
  | idle => trivial
  | blk b t =>
    rcases hb with h | ⟨k, t', hk⟩
    · exact .inl h
    · obtain ⟨k', hk'⟩ := hsub k _ hk; exact .inr ⟨k', t', hk'⟩
  | spare b p r e n =>
    rcases hb with h | h | ⟨k, p0, r0, e0, n0, hk, h1, h2⟩
    · exact .inl h
    · exact .inr (.inl h)
    · obtain ⟨k', hk'⟩ := hsub k _ hk; exact .inr (.inr ⟨k', p0, r0, e0, n0, hk', h1, h2⟩)

theorem InFoot.weaken {μc : Mu} {a : Addr} (hb : InFoot μc a) (hsub : ∀ k h, μc k = some h → ∃ k', μ k' = some h) : InFoot μ a := by
  rcases hb with ⟨k, t, hk⟩ | ⟨k, p, r, e, n, hk, h1, h2⟩
  · obtain ⟨k', hk'⟩ := hsub k _ hk; exact .inl ⟨k', t, hk'⟩
  · obtain ⟨k', hk'⟩ := hsub k _ hk; exact .inr ⟨k', p, r, e, n, hk', h1, h2⟩

theorem Ext.weaken {μc μc' μ' : Mu} {F' : Frz} {w' : World} (x : Ext μc F w μc' F' w') (hsub : ∀ k h, μc k = some h → ∃ k', μ k' = some h) (hd : ∀ k h, μ' k = some h → Born μ w h) : Ext μ F w μ' F' w' where
  le := x.le
  size := x.size
  keep := fun b hb => by
    rcases x.keep b hb with ⟨k, t, hk⟩ | h | ⟨us, us', ty, hw, hw', hl, ho⟩
    · obtain ⟨k', hk'⟩ := hsub k _ hk; exact .inl ⟨k', t, hk'⟩
    · exact .inr (.inl h)
    · exact .inr (.inr ⟨us, us', ty, hw, hw', hl, fun off hoff => ho off fun hf => hoff (hf.weaken hsub)⟩)
  os := x.os
  out := x.out
  fresh := fun a u h => by
    rcases x.fresh a u h with h | h | h
    · exact .inl h
    · exact .inr (.inl h)
    · exact .inr (.inr (h.weaken hsub))
  hd := hd

/-- A handle that comes of one that was handed in, or is new, is apart from whatever was apart from all that was handed in. -/
theorem Born.disj {μc μ2 : Mu} {F2 : Frz} {w2 : World} {h h' : Hd} {o o2 : Obj} (hb : Born μc w h) (ho2 : objRel F2 μ2 w2 o2 h) (ho : objRel F μ w o h') (hd : ∀ k g, μc k = some g → h'.disj g) : h'.disj h := by
  have hlt := objRel_lt ho
  have hz : ∀ b p r e n, h = .spare b p r e n → r * e = 0 → r = 0 := fun b p r e n hh hre => by
    subst hh
    cases o2 with
    | cells => exact ho2.elim
    | map => exact ho2.elim
    | row => exact ho2.elim
    | froz => exact ho2.elim
    | dead => exact ho2.elim
    | tok n' =>
      rcases ho2.2 with h | ⟨h, _⟩
      · exact h
      · rcases Nat.mul_eq_zero.1 hre with h' | h'
        · exact h'
        · omega
  cases h with
  | idle o => cases h' <;> simp only [Hd.disj]
  | blk b t =>
    rcases hb with hb | ⟨k, t', hk⟩
    · cases h' with
      | blk b' t' => have := hlt b' (.inl ⟨_, rfl⟩); simp only [Hd.disj]; omega
      | idle o => simp only [Hd.disj]
      | spare b' p r e n =>
        simp only [Hd.disj]
        by_cases h0 : r = 0
        · exact .inl h0
        · have := hlt b' (.inr ⟨p, r, e, n, rfl, h0⟩); omega
    · have := hd k _ hk
      cases h' <;> exact this
  | spare b p r e n =>
    rcases hb with hb | hb | ⟨k, p0, r0, e0, n0, hk, h1, h2⟩
    · have := hz _ _ _ _ _ rfl hb
      cases h' <;> simp only [Hd.disj] <;> simp [this]
    · cases h' with
      | blk b' t' => have := hlt b' (.inl ⟨_, rfl⟩); simp only [Hd.disj]; omega
      | idle o => simp only [Hd.disj]
      | spare b' p' r' e' n' =>
        simp only [Hd.disj]
        by_cases h0 : r' = 0
        · exact .inl h0
        · have := hlt b' (.inr ⟨p', r', e', n', rfl, h0⟩); omega
    · have hzero : r0 = 0 → r = 0 := fun h => by
        subst h
        exact hz _ _ _ _ _ rfl (by omega)
      have := hd k _ hk
      cases h' with
      | idle o => simp only [Hd.disj]
      | blk b' t' =>
        simp only [Hd.disj] at this ⊢
        rcases this with h | h
        · exact .inl (hzero h)
        · exact .inr h
      | spare b' p' r' e' n' =>
        simp only [Hd.disj] at this ⊢
        rcases this with h | h | h
        · exact .inl h
        · exact .inr (.inl (hzero h))
        · exact .inr (.inr h)

end
end Go.Ev

namespace Go.Ev
open Go

section
variable {P : Program} {w : World} {F : Frz} {μ : Mu} {σ : Store} {G : Globals} {C : FuncId → Option Contract}

/-- All memory as it is. -/
def allF (w : World) : Frz := fun a => if a.spot = none then (match w.cell? a with | some u => if u.oneCell' = true then some u else none | none => none) else none

theorem allF_some {a : Addr} {u : Value} (h : allF w a = some u) : a.spot = none ∧ w.cell? a = some u ∧ u.oneCell' = true := by
  unfold allF at h
  split at h
  · rename_i hs
    split at h
    · rename_i v hv
      split at h
      · rename_i h1; cases h; exact ⟨hs, hv, h1⟩
      · cases h
    · cases h
  · cases h

theorem allF_of {a : Addr} {u : Value} (h1 : a.spot = none) (h2 : w.cell? a = some u) (h3 : u.oneCell' = true) : allF w a = some u := by
  simp [allF, h1, h2, h3]

theorem le_allF (hI : Inv F μ σ w) : F.le (allF w) := fun a u h => by
  obtain ⟨h1, h2, h3⟩ := hI.frozen a u h
  exact allF_of h1 h2 h3

theorem inv_allF : Inv (allF w) noMu (argObjs 0 []) w where
  frozen := fun a u h => allF_some h
  dom1 := fun k o h => by simp [argObjs, Store.get] at h
  dom2 := fun k h hk => by simp [noMu] at hk
  apart := fun k k' h h' _ hk => by simp [noMu] at hk

theorem lends_run (hI : Inv F μ σ w) : ∀ {args args' : List V} {us : List Value} {l l' : List Key}, (lends args).run σ l = some (args', l') → rels F μ args us → rels (allF w) μ args' us ∧ (args.any isView = false → rels F μ args' us)
  | [], args', us, l, l', h, hr => by
    simp only [lends, Act.run, Option.some.injEq, Prod.mk.injEq] at h
    rw [← h.1]
    simp only [rels] at hr ⊢
    exact ⟨hr, fun _ => hr⟩
  | v :: r, args', us, l, l', h, hr => by
    obtain ⟨u, us', rfl, hv, hr'⟩ := hr
    simp only [lends] at h
    obtain ⟨v', l1, h1, h⟩ := bind_run h
    obtain ⟨r', l2, h2, h⟩ := bind_run h
    simp only [Act.run, Option.some.injEq, Prod.mk.injEq] at h
    obtain ⟨g1, g2⟩ := lends_run hI h2 hr'
    rw [← h.1]
    have key : rel (allF w) μ v' u ∧ (isView v = false → rel F μ v' u) := by
      unfold lend at h1
      split at h1
      · rename_i k e off len c
        split at h1
        · rename_i he
          obtain ⟨rfl, hlc⟩ := he
          obtain ⟨xs, l3, h3, h4⟩ := bind_run h1
          simp only [Act.run, Option.some.injEq, Prod.mk.injEq] at h4
          rw [← h4.1]
          refine ⟨?_, by simp [isView]⟩
          unfold source at h3
          simp only [and_self, if_true] at h3
          obtain ⟨o, ho, h3⟩ := get_run h3
          cases o <;> simp only at h3 <;> try (exact (fail_run h3).elim)
          rename_i cs
          split at h3
          · rename_i hc
            simp only [Act.run, Option.some.injEq, Prod.mk.injEq] at h3
            obtain ⟨hxs, _⟩ := h3
            simp only [rel] at hv
            obtain ⟨b, hb, rfl⟩ := hv
            obtain ⟨blk, ty, hw, hcs, _⟩ := hI.cells ho hb
            have hrt := rels_take len (rels_drop off hcs)
            have hcellsEq : ∀ (l : List V), l.all (fun c => c.frozen && c.isCell) = true → l.flatMap V.cellsOf = l ∧ ∀ y ∈ l, y.cellsOf.length = 1 := fun l hl => by
              induction l with
              | nil => simp
              | cons x r ih =>
                simp only [List.all_cons, Bool.and_eq_true] at hl
                have hx1 : x.cellsOf = [x] := by cases x <;> first | rfl | (simp [V.isCell] at hl)
                obtain ⟨i1, i2⟩ := ih (by simpa using hl.2)
                refine ⟨by rw [List.flatMap_cons, hx1, i1]; rfl, ?_⟩
                intro y hy
                rcases List.mem_cons.1 hy with rfl | hy
                · rw [hx1]; rfl
                · exact i2 y hy
            obtain ⟨q1, q2⟩ := hcellsEq _ hc.2
            rw [← hxs]
            simp only [rel]
            refine ⟨some ⟨b, off, none⟩, c, by rw [hc.1], ⟨.inr rfl, ?_⟩, ?_⟩
            · rw [frzE_iff, q1]
              refine ⟨q2, ?_⟩
              rw [frz_iff]
              intro i x hi
              simp only [List.getElem?_map, Option.map_eq_some_iff] at hi
              obtain ⟨x', hx', rfl⟩ := hi
              obtain ⟨y, hy, hxy⟩ := rels_get hrt hx'
              have hmem := hc.2
              rw [List.all_eq_true] at hmem
              have hfc := hmem x'.thin (List.mem_map_of_mem (List.mem_of_getElem? hx'))
              simp only [Bool.and_eq_true] at hfc
              have h1c := rel_isCell (rel_thin hxy) hfc.2
              have hone : y.oneCell' = true := by cases y <;> first | rfl | exact absurd rfl (h1c.1 _) | exact absurd rfl (h1c.2 _)
              refine ⟨y, allF_of rfl ?_ hone, ?_⟩
              · rw [cell_of_heap hw]; exact mem_of_take_drop hy
              · exact rel_mono (le_allF hI) (Mu.le_refl _) _ _ (rel_frozen _ _ hfc.1 (rel_thin hxy))
            · simp only [ownRel, hc.1]
              exact hlc
          · exact (fail_run h3).elim
        · exact (fail_run h1).elim
      · simp only [Act.run, Option.some.injEq, Prod.mk.injEq] at h1
        rw [← h1.1]
        have := rel_thin hv
        simp only [V.thin] at this
        exact ⟨rel_mono (le_allF hI) (Mu.le_refl _) _ _ this, fun _ => this⟩
      · simp only [Act.run, Option.some.injEq, Prod.mk.injEq] at h1
        rw [← h1.1]
        exact ⟨rel_mono (le_allF hI) (Mu.le_refl _) _ _ hv, fun _ => hv⟩
    refine ⟨⟨u, us', rfl, key.1, g1⟩, fun hnv => ?_⟩
    simp only [List.any_cons, Bool.or_eq_false_iff] at hnv
    exact ⟨u, us', rfl, key.2 hnv.1, g2 hnv.2⟩

theorem rel_flat {F' : Frz} {μ' : Mu} {r : V} {u : Value} (hf : r.flat = true) (h : rel F' μ' r u) : rel F μ r u := by
  have cell : ∀ {v : V} {x : Value}, v.flatCell = true → rel F' μ' v x → rel F μ v x := fun {v x} hv hx => by
    cases v <;> simp only [V.flatCell, Bool.false_eq_true] at hv <;> simpa only [rel] using hx
  have cells : ∀ {cs : List V} {us : List Value}, cs.all V.flatCell = true → rels F' μ' cs us → rels F μ cs us := fun {cs} => by
    induction cs with
    | nil => intro us _ h; simpa only [rels] using h
    | cons c r ih =>
      intro us hc h
      simp only [List.all_cons, Bool.and_eq_true] at hc
      obtain ⟨x, us', rfl, h1, h2⟩ := h
      exact ⟨x, us', rfl, cell hc.1 h1, ih hc.2 h2⟩
  unfold V.flat at hf
  split at hf
  · simp only [rel] at h ⊢
    obtain ⟨us, rfl, h1⟩ := h
    exact ⟨us, rfl, cells hf h1⟩
  · rename_i vs
    simp only [rel] at h ⊢
    obtain ⟨us, rfl, h1⟩ := h
    refine ⟨us, rfl, ?_⟩
    induction vs generalizing us with
    | nil => simpa only [rels] using h1
    | cons c r ih =>
      simp only [List.all_cons, Bool.and_eq_true] at hf
      obtain ⟨x, us', rfl, h2, h3⟩ := h1
      refine ⟨x, us', rfl, ?_, ih hf.2 us' h3⟩
      have hc := hf.1
      split at hc
      · simp only [rel] at h2 ⊢
        obtain ⟨ys, rfl, h4⟩ := h2
        exact ⟨ys, rfl, cells hc h4⟩
      · exact cell hc h2
  · exact cell hf h

/-- What a call comes to. -/
def CallGood (P : Program) (f : FuncId) (us : List Value) (F : Frz) (μ : Mu) (σ : Store) (w : World) (a : Ans) : Prop :=
  CallsX P f us.toArray w fun e w' => ∃ u F' μ', e = .returned u ∧ Post F μ w F' μ' (σ.puts a.up) w' ∧ rel F' μ' a.v u

theorem zip_find {ks : List Key} {os : List Obj} {g : Obj → Obj} (hl : os.length = ks.length) (hn : ks.Nodup) {i : Nat} {k : Key} (hk : ks[i]? = some k) (rest : List (Key × Obj)) :
    ∃ o, os[i]? = some o ∧ ((ks.zip (os.map g)) ++ rest).find? (fun p => p.1 = k) = some (k, g o) := by
  induction ks generalizing os i with
  | nil => simp at hk
  | cons k' r ih =>
    cases os with
    | nil => simp at hl
    | cons o os =>
      cases i with
      | zero => simp at hk; subst hk; exact ⟨o, rfl, by simp⟩
      | succ i =>
        simp at hk
        obtain ⟨o', ho', hf⟩ := ih (os := os) (by simpa using hl) (List.nodup_cons.1 hn).2 hk
        refine ⟨o', by simpa using ho', ?_⟩
        have hne : k' ≠ k := fun h => (List.nodup_cons.1 hn).1 (h ▸ List.mem_of_getElem? hk)
        simpa [hne] using hf

theorem newObjs_find : ∀ {os : List Obj} {dst j i : Nat}, i < os.length → ∃ o, os[i]? = some o ∧ (newObjs dst j os).find? (fun p => p.1 = .loc dst (j + i)) = some (.loc dst (j + i), o)
  | [], _, _, _, h => by simp at h
  | o :: os, dst, j, 0, h => ⟨o, rfl, by simp [newObjs]⟩
  | o :: os, dst, j, i + 1, h => by
    obtain ⟨o', h1, h2⟩ := newObjs_find (os := os) (dst := dst) (j := j + 1) (i := i) (by simpa using h)
    refine ⟨o', by simpa using h1, ?_⟩
    simp only [newObjs, List.find?_cons]
    have : ¬ (Key.loc dst j = Key.loc dst (j + (i + 1))) := by simp
    simp only [this, decide_false]
    have e : j + (i + 1) = j + 1 + i := by omega
    rw [e]; exact h2

theorem newObjs_none : ∀ {os : List Obj} {dst j : Nat} {k : Key}, (∀ i, k = .loc dst i → ¬ (j ≤ i ∧ i < j + os.length)) → (newObjs dst j os).find? (fun p => p.1 = k) = none
  | [], _, _, _, _ => rfl
  | o :: os, dst, j, k, h => by
    simp only [newObjs, List.find?_cons]
    have : ¬ (Key.loc dst j = k) := fun he => h j he.symm ⟨Nat.le_refl _, by simp⟩
    simp only [this, decide_false]
    exact newObjs_none fun i hi hc => h i hi ⟨by omega, by simp; omega⟩

theorem newObjs_keys : ∀ {os : List Obj} {dst j : Nat} {k : Key}, k ∈ (newObjs dst j os).map (·.1) → ∃ i, k = .loc dst i ∧ j ≤ i ∧ i < j + os.length
  | [], _, _, _, h => by simp [newObjs] at h
  | o :: os, dst, j, k, h => by
    simp only [newObjs, List.map_cons, List.mem_cons] at h
    rcases h with rfl | h
    · exact ⟨j, rfl, Nat.le_refl _, by simp⟩
    · obtain ⟨i, h1, h2, h3⟩ := newObjs_keys h
      exact ⟨i, h1, by omega, by simp; omega⟩

theorem newObjs_nodup : ∀ {os : List Obj} {dst j : Nat}, ((newObjs dst j os).map (·.1)).Nodup
  | [], _, _ => by simp [newObjs]
  | o :: os, dst, j => by
    simp only [newObjs, List.map_cons, List.nodup_cons]
    refine ⟨fun h => ?_, newObjs_nodup⟩
    obtain ⟨i, h1, h2, _⟩ := newObjs_keys h
    simp at h1; omega

theorem call_good (hS : Sound P G C) (hI : Inv F μ σ w) (hG : ∀ g cs, G.get g = some cs → frz F g 0 cs) {dst : Nat} {f : FuncId} {args : List V} {us : List Value} (hus : rels F μ args us) {ans : Ans} {l rd : List Key}
    (hr : (callBy C dst f args).run σ l = some (ans, rd)) : CallGood P f us F μ σ w ans := by
  unfold callBy at hr
  split at hr
  · exact (fail_run hr).elim
  rename_i c hc
  have hH := hS.holds f c hc
  obtain ⟨args', l1, hlend, hr⟩ := bind_run hr
  obtain ⟨ha1, ha2⟩ := lends_run hI hlend hus
  split at hr
  · -- rows are lent
    split at hr
    · rename_i hkeys
      split at hr
      · rename_i r hcr
        split at hr
        · rename_i hflat
          have := just_run hr; subst this
          have hno : rels (allF w) noMu args' us := by
            have := rels_ren (μ := μ) (μ' := noMu) (f := id) args' us (fun k h hk _ => by rw [hkeys] at hk; cases hk) ha1
            have hid : ∀ v : V, v.ren id = v := by
              intro v
              induction v using V.rec (motive_2 := fun vs => V.rens id vs = vs) <;> simp_all [V.ren, V.rens]
              split <;> simp_all
            have hids : ∀ vs : List V, V.rens id vs = vs := fun vs => by
              induction vs with
              | nil => rfl
              | cons v r ih => simp [V.rens, hid, ih]
            rwa [hids] at this
          refine (hH args' [] r [] [] hcr rfl (allF w) noMu w us (fun g cs hg => frz_mono (le_allF hI) _ _ _ (hG g cs hg)) inv_allF hno).mono fun e w' ⟨u, F', μ', he, _, hx, _, hrel⟩ => ?_
          have hlt : ∀ b, b < w.heap.size → w'.heap[b]? = w.heap[b]? := fun b hb => by
            rcases hx.keep b hb with ⟨k, _, hk⟩ | h | ⟨vs, vs', ty, hw, hw', hl, ho⟩
            · simp [noMu] at hk
            · exact h
            · have : vs' = vs := List.ext_getElem? fun i => ho i (by rintro (⟨k, _, hk⟩ | ⟨k, p, r, e, n, hk, _⟩) <;> simp [noMu] at hk)
              subst this
              exact hw'.trans hw.symm
          exact ⟨u, F, μ, he, ⟨hI.grow F.le_refl hlt (fun _ _ h => .inl h), Ext.grow F.le_refl hx.size hlt (fun _ _ h => .inl h) hx.os hx.out, Mu.le_refl _⟩, rel_flat hflat hrel⟩
        · exact (fail_run hr).elim
      · exact (fail_run hr).elim
    · exact (fail_run hr).elim
  · rename_i hnv
    have hnv' : args.any isView = false := by simpa using hnv
    have hargs := ha2 hnv'
    obtain ⟨objs, l2, hreach, hr⟩ := bind_run hr
    have hobjs := reach_run 64 _ [] hreach (by simp)
    simp only at hr
    generalize hks : objs.map (·.1) = ks at hr
    split at hr
    · rename_i hcond
      simp only [Bool.and_eq_true, decide_eq_true_eq, List.all_eq_true] at hcond
      obtain ⟨⟨hk1, hk2⟩, hnd⟩ := hcond
      split at hr
      · rename_i r os ns hcr
        split at hr
        · rename_i hlen
          obtain ⟨hfresh, l3, hr⟩ := news_run hr
          have := ret_run hr; simp only at this; subst this
          have hkl : objs.length = ks.length := by rw [← hks]; simp
          have hget : ∀ i k, ks[i]? = some k → ∃ o, objs[i]? = some (k, o) ∧ σ.get k = some o := fun i k hi => by
            rw [← hks, List.getElem?_map, Option.map_eq_some_iff] at hi
            obtain ⟨p, hp, rfl⟩ := hi
            exact ⟨p.2, hp, hobjs p (List.mem_of_getElem? hp)⟩
          -- the callee's start
          have hInv : Inv F (muIn μ ks) (argObjs 0 (objs.map fun p => p.2.ren (inKey ks))) w := {
            frozen := hI.frozen
            dom1 := fun k o hk => by
              cases k with
              | loc s j => rw [argObjs_get] at hk; cases hk
              | arg i =>
                rw [argObjs_get0, List.getElem?_map, Option.map_eq_some_iff] at hk
                obtain ⟨p, hp, rfl⟩ := hk
                obtain ⟨h, h1, h2⟩ := hI.dom1 p.1 p.2 (hobjs p (List.mem_of_getElem? hp))
                refine ⟨h, ?_, objRel_ren (fun k h' hk' hm => muIn_inKey (List.mem_of_elem_eq_true (by simpa using hk2 p (List.mem_of_getElem? hp) k hk')) hm) h2⟩
                simp only [muIn]
                rw [← hks, List.getElem?_map, hp]; exact h1
            dom2 := fun k h hk => by
              cases k with
              | loc s j => cases hk
              | arg i =>
                simp only [muIn, Option.bind_eq_some_iff] at hk
                obtain ⟨k', hk', _⟩ := hk
                obtain ⟨o, ho, _⟩ := hget i k' hk'
                exact ⟨o.ren (inKey ks), by rw [argObjs_get0, List.getElem?_map, ho]; rfl⟩
            apart := fun k k' h h' hne h1 h2 => by
              cases k with
              | loc s j => cases h1
              | arg i =>
                cases k' with
                | loc s j => cases h2
                | arg j =>
                  simp only [muIn, Option.bind_eq_some_iff] at h1 h2
                  obtain ⟨a, ha, h1⟩ := h1
                  obtain ⟨b, hb, h2⟩ := h2
                  exact hI.apart a b h h' (fun hab => by subst hab; exact hne (by rw [nodup_idx hnd ha hb])) h1 h2 }
          have hargs' : rels F (muIn μ ks) (V.rens (inKey ks) args') us := rels_ren args' us (fun k h hk hm => muIn_inKey (by simpa using hk1 k hk) hm) hargs
          have hsub : ∀ k h, muIn μ ks k = some h → ∃ k', μ k' = some h := fun k h hk => by
            cases k with
            | loc s j => cases hk
            | arg i =>
              simp only [muIn, Option.bind_eq_some_iff] at hk
              obtain ⟨k', _, h⟩ := hk
              exact ⟨k', h⟩
          refine (hH _ _ r os ns hcr (by simp [hlen, hkl]) F (muIn μ ks) w us hG hInv hargs').mono fun e w' ⟨u, F', μc', he, hI', hx, hle, hrel⟩ => ?_
          -- the caller's map
          have mu_in : ∀ i k, ks[i]? = some k → muOut μ μc' ks dst ns.length k = μc' (.arg i) := fun i k hi => by
            obtain ⟨j, hj⟩ := findIdxKey_mem 0 (List.mem_of_getElem? hi)
            obtain ⟨_, h2⟩ := findIdxKey_spec hj
            simp at h2
            have := nodup_idx hnd hi h2
            subst this
            simp only [muOut, hj]
          have not_in : ∀ k, k ∉ ks → findIdxKey k ks 0 = none := fun k hk => by
            cases hq : findIdxKey k ks 0 with
            | none => rfl
            | some j =>
              obtain ⟨_, h2⟩ := findIdxKey_spec hq
              exact absurd (List.mem_of_getElem? h2) hk
          have fresh_not : ∀ j, j < ns.length → Key.loc dst j ∉ ks := fun j hj hm => by
            obtain ⟨i, hi⟩ := List.getElem?_of_mem hm
            obtain ⟨o, _, ho⟩ := hget i _ hi
            rw [hfresh j (by omega) (by omega)] at ho; cases ho
          have mu_new : ∀ j, j < ns.length → muOut μ μc' ks dst ns.length (.loc dst j) = μc' (.arg (ks.length + j)) := fun j hj => by
            simp only [muOut, not_in _ (fresh_not j hj), true_and, hj, if_true]
          have mu_other : ∀ k, k ∉ ks → (∀ j, k = .loc dst j → ¬ j < ns.length) → muOut μ μc' ks dst ns.length k = μ k := fun k h1 h2 => by
            simp only [muOut, not_in k h1]
            cases k with
            | arg i => rfl
            | loc s j =>
              simp only
              rw [if_neg]
              rintro ⟨rfl, hj⟩
              exact h2 j rfl hj
          have hgo : ∀ (k : Key) (h : Hd), μc' k = some h → muOut μ μc' ks dst ns.length (outKey ks dst k) = some h := fun k h hk => by
            obtain ⟨o, ho⟩ := hI'.dom2 k h hk
            cases k with
            | loc s j => rw [argObjs_get] at ho; cases ho
            | arg i =>
              rw [argObjs_get0] at ho
              have hi : i < ks.length + ns.length := by
                have := (List.getElem?_eq_some_iff.1 ho).1
                simpa [hlen] using this
              simp only [outKey]
              cases hq : ks[i]? with
              | some k' => simp only; rw [mu_in i k' hq]; exact hk
              | none =>
                have : ks.length ≤ i := by
                  rcases Nat.lt_or_ge i ks.length with h' | h'
                  · rw [List.getElem?_eq_getElem h'] at hq; cases hq
                  · exact h'
                simp only
                rw [mu_new (i - ks.length) (by omega), show ks.length + (i - ks.length) = i by omega]; exact hk
          have hleμ : μ.le (muOut μ μc' ks dst ns.length) := fun k h hk => by
            by_cases hm : k ∈ ks
            · obtain ⟨i, hi⟩ := List.getElem?_of_mem hm
              rw [mu_in i k hi]
              exact hle (.arg i) h (by simp [muIn, hi, hk])
            · by_cases hn : ∃ j, k = .loc dst j ∧ j < ns.length
              · obtain ⟨j, rfl, hj⟩ := hn
                rw [hI.mu_none (hfresh j (by omega) (by omega))] at hk; cases hk
              · rw [mu_other k hm (fun j hj hlt => hn ⟨j, hj, hlt⟩)]
                exact ⟨h, hk, h.le_refl⟩
          have hdisj : ∀ k h, k ∉ ks → μ k = some h → ∀ k' h', muIn μ ks k' = some h' → h.disj h' := fun k h hk hm k' h' hk' => by
            cases k' with
            | loc s j => cases hk'
            | arg i =>
              simp only [muIn, Option.bind_eq_some_iff] at hk'
              obtain ⟨k2, hk2', h2⟩ := hk'
              exact hI.apart k k2 h h' (fun he => by subst he; exact hk (List.mem_of_getElem? hk2')) hm h2
          have hget' : ∀ k, (σ.puts ((ks.zip (os.map (Obj.ren (outKey ks dst)))) ++ newObjs dst 0 (ns.map (Obj.ren (outKey ks dst))))).get k =
              match ((ks.zip (os.map (Obj.ren (outKey ks dst)))) ++ newObjs dst 0 (ns.map (Obj.ren (outKey ks dst)))).find? (fun p => p.1 = k) with | some p => some p.2 | none => σ.get k := fun k => by
            refine puts_get _ σ k ?_
            rw [List.map_append, List.map_fst_zip (by simp [hlen])]
            rw [List.nodup_append]
            refine ⟨hnd, newObjs_nodup, fun a ha b hb hab => ?_⟩
            subst hab
            obtain ⟨i, rfl, _, h3⟩ := newObjs_keys hb
            exact fresh_not i (by simpa using h3) ha
          -- where a key's object comes from
          have origin : ∀ k, (∃ (a : Nat) (o : Obj), (os ++ ns)[a]? = some o ∧ muOut μ μc' ks dst ns.length k = μc' (.arg a) ∧
                (σ.puts ((ks.zip (os.map (Obj.ren (outKey ks dst)))) ++ newObjs dst 0 (ns.map (Obj.ren (outKey ks dst))))).get k = some (o.ren (outKey ks dst)) ∧ (ks[a]? = some k ∨ (ks[a]? = none ∧ k = .loc dst (a - ks.length)))) ∨
              (k ∉ ks ∧ muOut μ μc' ks dst ns.length k = μ k ∧ (σ.puts ((ks.zip (os.map (Obj.ren (outKey ks dst)))) ++ newObjs dst 0 (ns.map (Obj.ren (outKey ks dst))))).get k = σ.get k) := fun k => by
            by_cases hm : k ∈ ks
            · obtain ⟨i, hi⟩ := List.getElem?_of_mem hm
              obtain ⟨o, ho, hf⟩ := zip_find (g := Obj.ren (outKey ks dst)) hlen hnd hi (newObjs dst 0 (ns.map (Obj.ren (outKey ks dst))))
              have hio : i < os.length := (List.getElem?_eq_some_iff.1 ho).1
              refine .inl ⟨i, o, by rw [List.getElem?_append_left hio]; exact ho, mu_in i k hi, ?_, .inl hi⟩
              rw [hget', hf]
            · have hz : (ks.zip (os.map (Obj.ren (outKey ks dst)))).find? (fun p => p.1 = k) = none := by
                rw [List.find?_eq_none]
                intro p hp hh
                simp at hh
                have := (List.of_mem_zip hp).1
                rw [hh] at this
                exact hm this
              by_cases hn : ∃ j, k = .loc dst j ∧ j < ns.length
              · obtain ⟨j, rfl, hj⟩ := hn
                obtain ⟨o, ho, hf⟩ := newObjs_find (os := ns.map (Obj.ren (outKey ks dst))) (dst := dst) (j := 0) (i := j) (by simpa using hj)
                rw [List.getElem?_map, Option.map_eq_some_iff] at ho
                obtain ⟨o', ho', rfl⟩ := ho
                refine .inl ⟨ks.length + j, o', ?_, mu_new j hj, ?_, .inr ⟨?_, ?_⟩⟩
                · rw [List.getElem?_append_right (by omega), hlen, Nat.add_sub_cancel_left]; exact ho'
                · rw [hget', List.find?_append, hz]
                  simp only [Nat.zero_add] at hf
                  simp only [Option.none_or, hf]
                · exact List.getElem?_eq_none (by omega)
                · rw [Nat.add_sub_cancel_left]
              · refine .inr ⟨hm, mu_other k hm (fun j hj hlt => hn ⟨j, hj, hlt⟩), ?_⟩
                rw [hget', List.find?_append, hz, newObjs_none fun i hi hc => hn ⟨i, hi, by simpa using hc.2⟩]
                rfl
          have hgetc : ∀ a o, (os ++ ns)[a]? = some o → (argObjs 0 (os ++ ns)).get (.arg a) = some o := fun a o h => by rw [argObjs_get0]; exact h
          refine ⟨u, F', muOut μ μc' ks dst ns.length, he, ⟨⟨hI'.frozen, fun k o hk => ?_, fun k h hk => ?_, fun k k' h h' hne h1 h2 => ?_⟩, hx.weaken hsub fun k h hk => ?_, hleμ⟩, rel_ren r u (fun k h _ hk => hgo k h hk) hrel⟩
          · rcases origin k with ⟨a, o', ho', hmu, hg', _⟩ | ⟨hm, hmu, hg'⟩
            · rw [hg'] at hk; cases hk
              obtain ⟨h, h1, h2⟩ := hI'.dom1 (.arg a) o' (hgetc a o' ho')
              exact ⟨h, by rw [hmu]; exact h1, objRel_ren (fun k h _ hk => hgo k h hk) h2⟩
            · rw [hg'] at hk
              obtain ⟨h, h1, h2⟩ := hI.dom1 k o hk
              have hd := hdisj k h hm h1
              refine ⟨h, by rw [hmu]; exact h1, objRel_mono hx.le hleμ h2 (fun b hb => (hx.apart_block hd hb (objRel_lt h2 b hb)).1) (fun b off u hb hq => ?_)⟩
              have hb' : (∃ t, h = .blk b t) ∨ ∃ p r e n, h = .spare b p r e n ∧ r ≠ 0 := by
                rcases hb with hb | ⟨p, r, e, n, hb, h3, h4⟩
                · exact .inl hb
                · exact .inr ⟨p, r, e, n, hb, fun h0 => by subst h0; omega⟩
              exact (hx.apart_block hd hb' (objRel_lt h2 b hb')).2 off u hb hq
          · rcases origin k with ⟨a, o', ho', hmu, hg', _⟩ | ⟨hm, hmu, hg'⟩
            · exact ⟨_, hg'⟩
            · rw [hmu] at hk
              obtain ⟨o, ho⟩ := hI.dom2 k h hk
              exact ⟨o, by rw [hg']; exact ho⟩
          · rcases origin k with ⟨a, o1, ho1, hmu1, _, hka⟩ | ⟨hm1, hmu1, _⟩ <;> rcases origin k' with ⟨b, o2, ho2, hmu2, _, hkb⟩ | ⟨hm2, hmu2, _⟩ <;> rw [hmu1] at h1 <;> rw [hmu2] at h2
            · refine hI'.apart (.arg a) (.arg b) h h' (fun hab => ?_) h1 h2
              cases hab
              rcases hka with hka | ⟨hka, rfl⟩ <;> rcases hkb with hkb | ⟨hkb, rfl⟩
              · rw [hka] at hkb; cases hkb; exact hne rfl
              · rw [hka] at hkb; cases hkb
              · rw [hka] at hkb; cases hkb
              · exact hne rfl
            · obtain ⟨o, ho⟩ := hI.dom2 k' h' h2
              obtain ⟨h'', e1, e2⟩ := hI.dom1 k' o ho
              rw [h2] at e1; cases e1
              obtain ⟨g, e3, e4⟩ := hI'.dom1 (.arg a) o1 (hgetc a o1 ho1)
              rw [h1] at e3; cases e3
              exact Hd.disj_symm ((hx.hd _ _ h1).disj e4 e2 (hdisj k' h' hm2 h2))
            · obtain ⟨o, ho⟩ := hI.dom2 k h h1
              obtain ⟨h'', e1, e2⟩ := hI.dom1 k o ho
              rw [h1] at e1; cases e1
              obtain ⟨g, e3, e4⟩ := hI'.dom1 (.arg b) o2 (hgetc b o2 ho2)
              rw [h2] at e3; cases e3
              exact (hx.hd _ _ h2).disj e4 e2 (hdisj k h hm1 h1)
            · exact hI.apart k k' h h' hne h1 h2
          · rcases origin k with ⟨a, o', ho', hmu, _⟩ | ⟨hm, hmu, _⟩
            · rw [hmu] at hk; exact (hx.hd _ _ hk).weaken hsub
            · rw [hmu] at hk; exact (Ext.refl μ F w).hd k h hk
        · exact (fail_run hr).elim
      · exact (fail_run hr).elim
    · exact (fail_run hr).elim


/-! ### calls to which rows are lent -/
theorem lends_noview : ∀ {args args' : List V} {l l' : List Key}, args.any isView = false → (lends args).run σ l = some (args', l') → ∀ (σ' : Store) (l2 : List Key), (lends args).run σ' l2 = some (args', l2)
  | [], args', l, l', _, h, σ', l2 => by
    simp only [lends, Act.run, Option.some.injEq, Prod.mk.injEq] at h ⊢
    exact ⟨h.1, trivial⟩
  | v :: r, args', l, l', hv, h, σ', l2 => by
    simp only [List.any_cons, Bool.or_eq_false_iff] at hv
    simp only [lends] at h
    obtain ⟨v', l1, h1, h⟩ := bind_run h
    obtain ⟨r', l3, h2, h⟩ := bind_run h
    simp only [Act.run, Option.some.injEq, Prod.mk.injEq] at h
    have e1 : (lend v).run σ' l2 = some (v', l2) := by
      unfold lend at h1 ⊢
      split at h1
      · simp [isView] at hv
      · simp only [Act.run, Option.some.injEq, Prod.mk.injEq] at h1 ⊢
        exact ⟨h1.1, trivial⟩
      · simp only [Act.run, Option.some.injEq, Prod.mk.injEq] at h1 ⊢
        exact ⟨h1.1, trivial⟩
    have e2 := lends_noview hv.2 h2 σ' l2
    have bindr : ∀ {α β : Type} {x : Act α} {f : α → Act β} {a : α} {l l' : List Key}, x.run σ' l = some (a, l') → (x.bind f).run σ' l = (f a).run σ' l' := fun {α β x f a} => by
      induction x with
      | ret b => intro l l' hx; simp only [Act.run, Option.some.injEq, Prod.mk.injEq] at hx; obtain ⟨rfl, rfl⟩ := hx; rfl
      | fail => intro l l' hx; simp [Act.run] at hx
      | get k g ih =>
        intro l l' hx
        simp only [Act.bind, Act.run] at hx ⊢
        split at hx
        · rename_i o ho; exact ih o hx
        · cases hx
      | new k g ih =>
        intro l l' hx
        simp only [Act.bind, Act.run] at hx ⊢
        split at hx
        · cases hx
        · exact ih hx
    simp only [lends]
    rw [bindr e1, bindr e2, ← h.1]
    rfl

mutual
theorem ren_id_of_nokeys {f : Key → Key} : ∀ (v : V), v.keys = [] → v.ren f = v
  | .undef, _ => rfl
  | .bool _, _ => rfl
  | .int .., _ => rfl
  | .str _, _ => rfl
  | .nil, _ => rfl
  | .ptr .., h => by simp [V.keys] at h
  | .elem _, _ => rfl
  | .slc e xs own, h => by cases own <;> first | rfl | (simp [V.keys] at h)
  | .nilslc, _ => rfl
  | .view .., h => by simp [V.keys] at h
  | .rowv .., h => by simp [V.keys] at h
  | .rptr .., h => by simp [V.keys] at h
  | .map _, h => by simp [V.keys] at h
  | .nilmap, _ => rfl
  | .func fn a c, h => by
    simp only [V.keys, List.append_eq_nil_iff] at h
    simp only [V.ren, rens_id_of_nokeys a h.1, rens_id_of_nokeys c h.2]
  | .nilfunc, _ => rfl
  | .iface t v, h => by simp only [V.keys] at h; simp only [V.ren, ren_id_of_nokeys v h]
  | .nilIface, _ => rfl
  | .agg cs, h => by simp only [V.keys] at h; simp only [V.ren, rens_id_of_nokeys cs h]
  | .tuple cs, h => by simp only [V.keys] at h; simp only [V.ren, rens_id_of_nokeys cs h]
theorem rens_id_of_nokeys {f : Key → Key} : ∀ (vs : List V), V.keyss vs = [] → V.rens f vs = vs
  | [], _ => rfl
  | v :: r, h => by
    simp only [V.keyss, List.append_eq_nil_iff] at h
    simp only [V.rens, ren_id_of_nokeys v h.1, rens_id_of_nokeys r h.2]
end

theorem news_ret : ∀ {ns : List Obj} {dst j : Nat} {a : Act Ans} {l : List Key}, (∀ i, j ≤ i → i < j + ns.length → σ.get (.loc dst i) = none) → ∃ l', (news dst j ns a).run σ l = a.run σ l'
  | [], dst, j, a, l, h => ⟨l, rfl⟩
  | o :: ns, dst, j, a, l, h => by
    simp only [news, Act.run]
    rw [h j (Nat.le_refl _) (by simp)]
    exact news_ret fun i h1 h2 => h i (by omega) (by simp; omega)

theorem callRows_good (hS : Sound P G C) (hI : Inv F μ σ w) (hG : ∀ g cs, G.get g = some cs → frz F g 0 cs) {dst : Nat} {f : FuncId} {args : List V} {us : List Value} (hus : rels F μ args us) {ans : Ans} {l rd : List Key}
    (hr : (callRows C dst f args).run σ l = some (ans, rd)) : CallGood P f us F μ σ w ans := by
  unfold callRows at hr
  split at hr
  · exact (fail_run hr).elim
  rename_i c hc
  have hH := hS.holds f c hc
  obtain ⟨p, l1, hfr, hr⟩ := bind_run hr
  obtain ⟨args', l2, hlend, hr⟩ := bind_run hr
  split at hr
  · rename_i hcond
    obtain ⟨hkeys, hnv⟩ := hcond
    obtain ⟨vs', ups⟩ := p
    obtain ⟨F1, μ1, hp1, hnone, hr1⟩ := frzVals_post hI hus hfr
    simp only at hlend hnv hr
    split at hr
    · rename_i r ns hcr
      split at hr
      · rename_i hfl
        simp only [Bool.and_eq_true, List.isEmpty_iff] at hfl
        obtain ⟨hflat, rfl⟩ := hfl
        have := just_run hr; subst this
        obtain ⟨_, ha2⟩ := lends_run hp1.1 (lends_noview hnv hlend _ []) hr1
        have ha := ha2 hnv
        have hle1 := le_allF hp1.1
        have hno : rels (allF w) noMu args' us := by
          have := rels_ren (μ := μ1) (μ' := noMu) (f := id) args' us (fun k h hk _ => by rw [hkeys] at hk; cases hk) (rels_mono hle1 (Mu.le_refl _) _ _ ha)
          rwa [rens_id_of_nokeys _ hkeys] at this
        refine (hH args' [] r [] [] hcr rfl (allF w) noMu w us (fun g cs hg => frz_mono (le_allF hI) _ _ _ (hG g cs hg)) inv_allF hno).mono fun e w' ⟨u, F', μ', he, _, hx, _, hrel⟩ => ?_
        have hlt : ∀ b, b < w.heap.size → w'.heap[b]? = w.heap[b]? := fun b hb => by
          rcases hx.keep b hb with ⟨k, _, hk⟩ | h | ⟨vs, vs', ty, hw, hw', hl, ho⟩
          · simp [noMu] at hk
          · exact h
          · have : vs' = vs := List.ext_getElem? fun i => ho i (by rintro (⟨k, _, hk⟩ | ⟨k, p, r, e, n, hk, _⟩) <;> simp [noMu] at hk)
            subst this
            exact hw'.trans hw.symm
        exact ⟨u, F, μ, he, ⟨hI.grow F.le_refl hlt (fun _ _ h => .inl h), Ext.grow F.le_refl hx.size hlt (fun _ _ h => .inl h) hx.os hx.out, Mu.le_refl _⟩, rel_flat hflat hrel⟩
      · obtain ⟨hfresh, l3, hr⟩ := news_run hr
        have := ret_run hr; simp only at this; subst this
        -- the call, from the state in which the rows are written no more
        have hcall : ∃ rd', (callBy C dst f vs').run (σ.puts ups) [] = some (⟨r.ren (outKey [] dst), newObjs dst 0 (ns.map (Obj.ren (outKey [] dst)))⟩, rd') := by
          have hl := lends_noview hnv hlend (σ.puts ups) []
          have hbind : ∀ {α β : Type} {x : Act α} {g : α → Act β} {a : α} {l l' : List Key}, x.run (σ.puts ups) l = some (a, l') → (x.bind g).run (σ.puts ups) l = (g a).run (σ.puts ups) l' := fun {α β x g a} => by
            induction x with
            | ret b => intro l l' hx; simp only [Act.run, Option.some.injEq, Prod.mk.injEq] at hx; obtain ⟨rfl, rfl⟩ := hx; rfl
            | fail => intro l l' hx; simp [Act.run] at hx
            | get k g ih =>
              intro l l' hx
              simp only [Act.bind, Act.run] at hx ⊢
              split at hx
              · rename_i o ho; exact ih o hx
              · cases hx
            | new k g ih =>
              intro l l' hx
              simp only [Act.bind, Act.run] at hx ⊢
              split at hx
              · cases hx
              · exact ih hx
          obtain ⟨l', hn⟩ := news_ret (σ := σ.puts ups) (ns := ns) (dst := dst) (j := 0) (a := .ret ⟨r.ren (outKey [] dst), ([].zip (([] : List Obj).map (Obj.ren (outKey [] dst)))) ++ newObjs dst 0 (ns.map (Obj.ren (outKey [] dst)))⟩) (l := []) (fun i h1 h2 => hnone _ (hfresh i h1 h2))
          refine ⟨l', ?_⟩
          unfold callBy
          simp only [hc]
          rw [hbind hl]
          simp only [hnv, Bool.false_eq_true, if_false, hkeys]
          have hreach : (reach 64 [] []).run (σ.puts ups) [] = some ([], []) := by simp [reach, Act.run]
          rw [hbind hreach]
          simp only [List.map_nil, List.all_nil, List.nodup_nil, decide_true, Bool.and_true, if_true, rens_id_of_nokeys _ hkeys, hcr, List.length_nil]
          simp only [List.map_nil, List.zip_nil_left, List.nil_append] at hn ⊢
          rw [hn]
          rfl
        obtain ⟨rd', hcall⟩ := hcall
        have := call_good hS hp1.1 (fun g cs hg => frz_mono hp1.2.1.le _ _ _ (hG g cs hg)) hr1 hcall
        refine this.mono fun e w' ⟨u, F', μ', he, hp2, hrel⟩ => ⟨u, F', μ', he, ?_, hrel⟩
        have := hp1.trans hp2
        rwa [← puts_append] at this
    · exact (fail_run hr).elim
  · exact (fail_run hr).elim

end
end Go.Ev

namespace Go.Ev
open Go

section
variable {P : Program} {w : World} {F : Frz} {μ : Mu} {σ : Store} {G : Globals} {C : FuncId → Option Contract} {acc : List Nat} {ops : Array Oper}

theorem tmRel_put {tm : Tm} {a : Go.Act} {o : AOper} {dst : Option Nat} {x : V} {v : Value} (ho : o.dst = dst) (hd : ∀ d, dst = some d → d < a.tmps.size) (ht : TmRel F μ tm a.tmps) (hx : rel F μ x v) :
    TmRel F μ (o.put tm x) (a.put dst v).tmps := by
  subst ho
  unfold AOper.put
  cases hq : o.dst with
  | none => exact ht
  | some d =>
    intro i
    have hlt := hd d hq
    simp only [Go.Act.put, Tm.at_cons]
    by_cases h : d = i
    · subst h
      rw [if_pos rfl]
      have : (a.tmps.setIfInBounds d v).getD d undef = v := by simp [hlt]
      rw [this]; exact hx
    · rw [if_neg h]
      have : (a.tmps.setIfInBounds d v).getD i undef = a.tmps.getD i undef := by simp [Array.getElem?_setIfInBounds_ne h]
      rw [this]; exact ht i

theorem TmRel.mono {F' : Frz} {μ' : Mu} {tm : Tm} {us : Array Value} (hF : F.le F') (hm : μ.le μ') (h : TmRel F μ tm us) : TmRel F' μ' tm us := fun i => rel_mono hF hm _ _ (h i)

theorem rowOp_isCall {acc : List Nat} {dst : Option Nat} {n : Nat} {agg : Bool} {l : List AOpd} : (rowOp acc dst n agg l).isCall = false := by
  unfold rowOp
  split
  · split
    · rfl
    · split <;> rfl
  · rfl

theorem prepOp_call {o : Oper} {ao : AOp} (h : prepOp P G acc o = some ao) (hc : ao.isCall = true) : ∃ c f, o.op = .call c ∧ c.callee = .value f := by
  obtain ⟨odst, op, ty, pos, after, guard⟩ := o
  cases op
  case makeMap t r =>
    exfalso
    cases r <;> simp only [prepOp] at h
    · split at h <;> first | (cases h; done) | (cases h; simp [AOp.isCall] at hc; done)
    · cases h
  all_goals simp only [prepOp] at h
  case call c =>
    obtain ⟨callee, cargs, ctypes⟩ := c
    cases callee with
    | value f => exact ⟨_, f, rfl, rfl⟩
    | invoke r n => split at h <;> simp at h
    | builtin b =>
      exfalso
      split at h <;> first | (cases h; done) | skip
      simp only at h
      split at h <;> first | (cases h; done) | skip
      all_goals
        first
          | (cases h; simp [AOp.isCall] at hc; done)
          | (split at h <;> first | (cases h; done) | (cases h; simp [AOp.isCall] at hc; done) | (simp only [Option.map_eq_some_iff] at h; obtain ⟨_, _, rfl⟩ := h; simp [AOp.isCall] at hc; done) |
              (split at h <;> first | (cases h; done) | (cases h; simp [AOp.isCall] at hc; done) | (split at h <;> first | (cases h; done) | (cases h; simp [AOp.isCall] at hc; done))))
          | ((repeat' (split at h)) <;> first | (cases h; done) | (cases h; simp [AOp.isCall] at hc; done))
  all_goals
    exfalso
    first
      | (simp only [Option.map_eq_some_iff] at h; obtain ⟨_, _, rfl⟩ := h; first | (simp [AOp.isCall] at hc; done) | (unfold accOp at hc; split at hc <;> (try split at hc) <;> simp [AOp.isCall] at hc; done))
      | (cases h; done)
      | ((repeat' (split at h)) <;> first | (cases h; done) | (cases h; simp [AOp.isCall] at hc; done) | (simp only [Option.map_eq_some_iff] at h; obtain ⟨_, _, rfl⟩ := h; first | (simp [AOp.isCall] at hc; done) | (rw [rowOp_isCall] at hc; cases hc)))

theorem callBy_some {dst : Nat} {f : FuncId} {args : List V} {l : List Key} {r : Ans × List Key} (h : (callBy C dst f args).run σ l = some r) : (C f).isSome = true := by
  unfold callBy at h
  split at h
  · exact (fail_run h).elim
  · rename_i hc; simp [hc]

/-- A call's operation. -/
theorem good_callop (hS : Sound P G C) (hI : Inv F μ σ w) (hG : ∀ g cs, G.get g = some cs → frz F g 0 cs) {tm : Tm} {a : Go.Act} (ht : TmRel F μ tm a.tmps) {o : Oper} {ao : AOp} (h : prepOp P G acc o = some ao) (hc : ao.isCall = true)
    {dst : Nat} {ans : Ans} {rd : List Key} (hr : (act C dst (AOpd.ev tm) ao).run σ [] = some (ans, rd)) :
    ∃ f us, (execOp a.eval o).run P w = (callFunc f us.toArray).run P w ∧ CallGood P f us F μ σ w ans := by
  obtain ⟨c, fo, ho, hcal⟩ := prepOp_call h hc
  obtain ⟨odst, op, ty, pos, after, guard⟩ := o
  simp only at ho
  subst ho
  obtain ⟨callee, cargs, ctypes⟩ := c
  simp only at hcal
  subst hcal
  simp only [prepOp] at h
  split at h <;> first | (cases h; done) | skip
  rename_i args hargs
  have hrels := rels_coerces (P := P) (ts := ctypes.toList) (rels_opds (a := a) hG ht hargs)
  have hargsA : cargs.map a.eval = (cargs.toList.map a.eval).toArray := by apply Array.ext'; simp
  split at h <;> first | (cases h; done) | skip
  · rename_i g hf
    have hfr := rel_opd (a := a) hG ht hf
    simp only [AOpd.ev, rel, rels] at hfr
    obtain ⟨f', c', hfv, rfl, rfl⟩ := hfr
    have hrun : (execOp a.eval ⟨odst, .call ⟨.value fo, cargs, ctypes⟩, ty, pos, after, guard⟩).run P w = (callFunc g (cargs.toList.map a.eval).toArray).run P w := by
      simp only [execOp, Sem.run_bind, resolve, hfv, Deferred.ofValue, Sem.run_pure, Result.andThen_ok, invoke]
      rw [hargsA]
      congr 2
      simp
    split at h
    · cases h
      simp only [act] at hr
      exact ⟨g, cargs.toList.map a.eval, hrun, callRows_good hS hI hG hrels hr⟩
    · cases h
      simp only [act] at hr
      exact ⟨g, cargs.toList.map a.eval, hrun, call_good hS hI hG hrels hr⟩
  · rename_i y hf
    cases h
    have hfr := rel_opd (a := a) hG ht hf
    simp only [act] at hr
    split at hr
    · rename_i g first captured hy
      rw [hy] at hfr
      simp only [rel] at hfr
      obtain ⟨f', c', hfv, r1, r2⟩ := hfr
      refine ⟨g, f' ++ cargs.toList.map a.eval ++ c', ?_, call_good hS hI hG (rels_append (rels_append r1 hrels) r2) hr⟩
      simp only [execOp, Sem.run_bind, resolve, hfv, Deferred.ofValue, Sem.run_pure, Result.andThen_ok, invoke]
      rw [hargsA]
      congr 2
      simp
    · exact (fail_run hr).elim

structure StRel (n : Nat) (F : Frz) (μ : Mu) (s : St) (a : Go.Act) (w : World) : Prop where
  inv : Inv F μ s.st w
  tm : TmRel F μ s.tm a.tmps
  dn : a.defers = []
  sz : n ≤ a.tmps.size

theorem put_defers {a : Go.Act} {dst : Option Nat} {v : Value} (h : a.defers = []) : (a.put dst v).defers = [] := by cases dst <;> exact h
theorem put_size {a : Go.Act} {dst : Option Nat} {v : Value} : (a.put dst v).tmps.size = a.tmps.size := by cases dst <;> simp [Go.Act.put]

theorem prepOper_op {o : Oper} {ao : AOper} (h : prepOper P G acc ops o = some ao) : prepOp P G acc o = some ao.op ∧ ao.dst = o.dst ∧
    ((o.guard = none ∧ ao.guard = none) ∨ ∃ j want g, o.guard = some (j, want) ∧ (ops[j]?).bind (·.dst) = some g ∧ ao.guard = some (g, want)) := by
  unfold prepOper at h
  split at h
  · cases h
  · rename_i op hop
    split at h
    · rename_i hg; cases h; exact ⟨hop, rfl, .inl ⟨hg, rfl⟩⟩
    · rename_i j want hg
      split at h
      · rename_i g hgd; cases h; exact ⟨hop, rfl, .inr ⟨j, want, g, hg, hgd, rfl⟩⟩
      · cases h

theorem tmRel_at {tm : Tm} {us : Array Value} {g : Nat} {x : V} (ht : TmRel F μ tm us) (hx : tm.at g = x) : rel F μ x (us.getD g undef) := by
  subst hx; exact ht g

/-- One operation. -/
theorem op_wp (hS : Sound P G C) {F0 : Frz} {o : Oper} {ao : AOper} (hp : prepOper P G acc ops o = some ao) {s s' : St} {rd wr : List Key} (hs : step C s ao = some (s', rd, wr)) {a : Go.Act} {n : Nat} (hR : StRel n F μ s a w) (hd : ∀ d, o.dst = some d → d < n) (hG : ∀ g cs, G.get g = some cs → frz F g 0 cs)
    {K : Go.Act → World → Prop} {Q : Exit → Go.Act → World → Prop} (hK : ∀ (v : Value) w' F' μ', Ext μ F w μ' F' w' → μ.le μ' → StRel n F' μ' s' (a.put o.dst v) w' → K (a.put o.dst v) w') :
    if Region.wanted o (yielded ops a.tmps) then o.wp P a w K Q else K (a.put o.dst undef) w := by
  obtain ⟨hop, hdst, hguard⟩ := prepOper_op hp
  -- the operation itself
  have main : (∀ an rdd, (act C (ao.dst.getD noSlot) (AOpd.ev s.tm) ao.op).run s.st [] = some (an, rdd) → s' = ⟨ao.put s.tm an.v, s.st.puts an.up⟩ → o.wp P a w K Q) := fun an rdd hr hs' => by
    have put : ∀ (v : Value) (w' : World) (F' : Frz) (μ' : Mu), Post F μ w F' μ' (s.st.puts an.up) w' → rel F' μ' an.v v → K (a.put o.dst v) w' := fun v w' F' μ' hpost hv => by
      refine hK v w' F' μ' hpost.2.1 hpost.2.2 ⟨by rw [hs']; exact hpost.1, ?_, put_defers hR.dn, by rw [put_size]; exact hR.sz⟩
      rw [hs']
      exact tmRel_put hdst (fun d h => Nat.lt_of_lt_of_le (hd d h) hR.sz) (hR.tm.mono hpost.2.1.le hpost.2.2) hv
    unfold Oper.wp
    cases hc : ao.op.isCall with
    | false =>
      obtain ⟨v, w', F', μ', hrun, hpost, hv⟩ := good_op hR.inv hG hR.tm hop hc hr
      rcases hrun with hrun | ⟨hrun, rfl⟩
      · rw [hrun]; exact put v w' F' μ' hpost hv
      · rw [hrun]; exact put undef w' F' μ' hpost hv
    | true =>
      obtain ⟨f, us, hrun, hcall⟩ := good_callop hS hR.inv hG hR.tm hop hc hr
      rw [hrun]
      rcases hcall with ⟨hcall, hent⟩ | ⟨u, w', hval, u', F', μ', he, hpost, hv⟩
      · rw [hent]
        simp only [Oper.upon]
        exact hcall.mono fun e w' ⟨u, F', μ', he, hpost, hv⟩ => by
          subst he
          exact put u w' F' μ' hpost hv
      · cases he
        rw [hval]
        exact put _ w' F' μ' hpost hv
  have skip : s' = ⟨ao.put s.tm (.tuple []), s.st⟩ → K (a.put o.dst undef) w := fun hs' => by
    refine hK undef w F μ (Ext.refl ..) (Mu.le_refl _) ⟨by rw [hs']; exact hR.inv, ?_, put_defers hR.dn, by rw [put_size]; exact hR.sz⟩
    rw [hs']
    exact tmRel_put hdst (fun d h => Nat.lt_of_lt_of_le (hd d h) hR.sz) hR.tm (by simp [rel, rels, undef])
  rw [step_eq] at hs
  unfold stepA at hs
  rcases hguard with ⟨g1, g2⟩ | ⟨j, want, g, g1, g2, g3⟩
  · rw [g2] at hs
    simp only [Region.wanted, g1, if_true]
    split at hs
    · rename_i an rdd hr; cases hs; exact main an _ hr rfl
    · cases hs
  · rw [g3] at hs
    simp only at hs
    split at hs
    · rename_i b hb
      have hru := tmRel_at hR.tm hb
      simp only [rel] at hru
      have hu : a.tmps[g]? = some (.bool b) := by
        cases hq : a.tmps[g]? with
        | none => simp [hq, undef] at hru
        | some u => simp [hq] at hru; rw [hru]
      have hy : yielded ops a.tmps j = some b := by simp [yielded, g2, hu]
      split at hs
      · rename_i hbw
        subst hbw
        simp only [Region.wanted, g1, hy, beq_self_eq_true, if_true]
        split at hs
        · rename_i an rdd hr; cases hs; exact main an _ hr rfl
        · cases hs
      · rename_i hbw
        cases hs
        have : Region.wanted o (yielded ops a.tmps) = false := by simp [Region.wanted, g1, hy, hbw]
        rw [this]
        exact skip rfl
    · rename_i hb
      have hru := tmRel_at hR.tm hb
      simp only [rel, rels] at hru
      obtain ⟨us, hru, rfl⟩ := hru
      cases hs
      have hy : yielded ops a.tmps j = none := by
        cases hq : a.tmps[g]? with
        | none => simp [yielded, g2, hq]
        | some u =>
          simp [hq] at hru
          simp [yielded, g2, hq, hru]
      have : Region.wanted o (yielded ops a.tmps) = false := by simp [Region.wanted, g1, hy]
      rw [this]
      exact skip rfl
    · cases hs

end
end Go.Ev

namespace Go.Ev
open Go

/-! ### reading is local -/
theorem Act.run_log {α : Type} : ∀ (f : Act α) {σ : Store} {l l' : List Key} {x : α}, f.run σ l = some (x, l') → ∃ m, l' = m ++ l
  | .ret a, _, _, _, _, h => by simp only [Act.run] at h; cases h; exact ⟨[], rfl⟩
  | .fail, _, _, _, _, h => by simp [Act.run] at h
  | .get k f, _, _, _, _, h => by
    simp only [Act.run] at h
    split at h
    · rename_i o ho
      obtain ⟨m, rfl⟩ := Act.run_log (f o) h
      exact ⟨m ++ [k], by simp⟩
    · cases h
  | .new k f, _, _, _, _, h => by
    simp only [Act.run] at h
    split at h
    · cases h
    · obtain ⟨m, rfl⟩ := Act.run_log f h
      exact ⟨m ++ [k], by simp⟩

theorem Act.run_agree {α : Type} : ∀ (f : Act α) {σ σ' : Store} {l l' : List Key} {x : α}, f.run σ l = some (x, l') → (∀ k ∈ l', σ.get k = σ'.get k) → f.run σ' l = some (x, l')
  | .ret a, _, _, _, _, _, h, _ => by simpa only [Act.run] using h
  | .fail, _, _, _, _, _, h, _ => by simp [Act.run] at h
  | .get k f, σ, σ', _, l', _, h, ha => by
    simp only [Act.run] at h ⊢
    split at h
    · rename_i o ho
      obtain ⟨m, hm⟩ := Act.run_log (f o) h
      rw [← ha k (by simp [hm]), ho]
      exact Act.run_agree (f o) h ha
    · cases h
  | .new k f, σ, σ', _, l', _, h, ha => by
    simp only [Act.run] at h ⊢
    split at h
    · cases h
    · rename_i ho
      obtain ⟨m, hm⟩ := Act.run_log f h
      rw [← ha k (by simp [hm]), ho]
      exact Act.run_agree f h ha

def AOp.opds : AOp → List AOpd
  | .mv x => [x]
  | .nilrow _ => []
  | .pick c a b => [c, a, b]
  | .alloc _ => []
  | .box _ x => [x]
  | .build _ ps => ps.map (·.2.2)
  | .buildSlice _ _ ps => ps
  | .load _ _ a => [a]
  | .store _ a x => [a, x]
  | .nilCheck x => [x]
  | .bin _ _ x y => [x, y]
  | .eqAgg _ _ x y => [x, y]
  | .un _ x => [x]
  | .convInt _ x => [x]
  | .convSame x => [x]
  | .bytesOf x => [x]
  | .stringOf x => [x]
  | .arrOf _ x => [x]
  | .func _ a b => a ++ b
  | .makeMap => []
  | .makeSlice _ _ _ _ l c => [l, c]
  | .makeRow _ l c => [l, c]
  | .sliceS _ x lo hi mx => x :: (lo.toList ++ hi.toList ++ mx.toList)
  | .sliceA _ _ x lo hi mx => x :: (lo.toList ++ hi.toList ++ mx.toList)
  | .sliceT x lo hi => x :: (lo.toList ++ hi.toList)
  | .fieldAddr _ x => [x]
  | .field _ _ _ x => [x]
  | .indexS _ x i => [x, i]
  | .indexA _ _ x i => [x, i]
  | .indexT x i => [x, i]
  | .lookup _ _ m k _ => [m, k]
  | .mapSet _ m k v => [m, k, v]
  | .delete _ m k => [m, k]
  | .lenS x => [x]
  | .lenT x => [x]
  | .lenM x => [x]
  | .lenA _ => []
  | .cap x => [x]
  | .append _ _ s x => [s, x]
  | .appendR _ _ s x => [s, x]
  | .buildSliceF _ _ ps => ps
  | .buildRow _ ps => ps
  | .clearRow _ _ x => [x]
  | .appendZ s x => [s, x]
  | .copy _ d x => [d, x]
  | .min x r => x :: r
  | .max x r => x :: r
  | .clearMap x => [x]
  | .call _ args => args
  | .callR _ args => args
  | .callv f args => f :: args
  | .extract x _ => [x]

theorem fillArgs_congr {ρ ρ' : AOpd → V} : ∀ {ps : List (Nat × Nat × AOpd)}, (∀ x ∈ ps.map (·.2.2), ρ x = ρ' x) → fillArgs ρ ps = fillArgs ρ' ps
  | [], _ => rfl
  | (o, n, x) :: r, h => by
    simp only [fillArgs]
    rw [h x (by simp), fillArgs_congr fun y hy => h y (by simp at hy ⊢; exact .inr hy)]

theorem map_congr' {ρ ρ' : AOpd → V} {l : List AOpd} (h : ∀ x ∈ l, ρ x = ρ' x) : l.map ρ = l.map ρ' := List.map_congr_left h

theorem omap_congr {ρ ρ' : AOpd → V} {l : Option AOpd} (h : ∀ x ∈ l.toList, ρ x = ρ' x) : l.map ρ = l.map ρ' := by
  cases l with
  | none => rfl
  | some x => simp [h x (by simp)]

theorem act_congr {C : FuncId → Option Contract} {d : Nat} {ρ ρ' : AOpd → V} {op : AOp} (h : ∀ x ∈ op.opds, ρ x = ρ' x) : act C d ρ op = act C d ρ' op := by
  cases op <;> simp only [AOp.opds] at h
  case build z ps => simp only [act]; rw [fillArgs_congr h]
  case buildSlice e a ps => simp only [act]; rw [map_congr' h]
  case func fn a b => simp only [act]; rw [map_congr' (l := a) fun x hx => h x (by simp [hx]), map_congr' (l := b) fun x hx => h x (by simp [hx])]
  case sliceS e x lo hi mx => simp only [act]; rw [h x (by simp), omap_congr (l := lo) fun x hx => h x (by simp at hx; simp [hx]), omap_congr (l := hi) fun x hx => h x (by simp at hx; simp [hx]), omap_congr (l := mx) fun x hx => h x (by simp at hx; simp [hx])]
  case sliceA n e x lo hi mx => simp only [act]; rw [h x (by simp), omap_congr (l := lo) fun x hx => h x (by simp at hx; simp [hx]), omap_congr (l := hi) fun x hx => h x (by simp at hx; simp [hx]), omap_congr (l := mx) fun x hx => h x (by simp at hx; simp [hx])]
  case sliceT x lo hi => simp only [act]; rw [h x (by simp), omap_congr (l := lo) fun x hx => h x (by simp at hx; simp [hx]), omap_congr (l := hi) fun x hx => h x (by simp at hx; simp [hx])]
  case min x r => simp only [act]; rw [h x (by simp), map_congr' (l := r) fun x hx => h x (by simp [hx])]
  case max x r => simp only [act]; rw [h x (by simp), map_congr' (l := r) fun x hx => h x (by simp [hx])]
  case call f args => simp only [act]; rw [map_congr' h]
  case callR f args => simp only [act]; rw [map_congr' h]
  case buildSliceF e a ps => simp only [act]; rw [map_congr' h]
  case buildRow e ps => simp only [act]; rw [map_congr' h]
  case callv f args => simp only [act]; rw [h f (by simp), map_congr' (l := args) fun x hx => h x (by simp [hx])]
  case nilrow => rfl
  case alloc => rfl
  case makeMap => rfl
  case lenA => rfl
  case pick c a b => simp only [act]; rw [h c (by simp), h a (by simp), h b (by simp)]
  case store n a x => simp only [act]; rw [h a (by simp), h x (by simp)]
  case bin k o x y => simp only [act]; rw [h x (by simp), h y (by simp)]
  case eqAgg k o x y => simp only [act]; rw [h x (by simp), h y (by simp)]
  case makeSlice l c => simp only [act]; rw [h l (by simp), h c (by simp)]
  case makeRow l c => simp only [act]; rw [h l (by simp), h c (by simp)]
  case appendZ l c => simp only [act]; rw [h l (by simp), h c (by simp)]
  case indexS x i => simp only [act]; rw [h x (by simp), h i (by simp)]
  case indexA x i => simp only [act]; rw [h x (by simp), h i (by simp)]
  case indexT x i => simp only [act]; rw [h x (by simp), h i (by simp)]
  case lookup m k o => simp only [act]; rw [h m (by simp), h k (by simp)]
  case mapSet m k v => simp only [act]; rw [h m (by simp), h k (by simp), h v (by simp)]
  case delete m k => simp only [act]; rw [h m (by simp), h k (by simp)]
  case append e b s x => simp only [act]; rw [h s (by simp), h x (by simp)]
  case appendR e b s x => simp only [act]; rw [h s (by simp), h x (by simp)]
  case copy e d x => simp only [act]; rw [h d (by simp), h x (by simp)]
  all_goals (rename_i x; first | (simp only [act]; rw [h x (by simp)]) | (simp only [act]; rw [h _ (by simp)]))

def AOper.looks (o : AOper) : List Nat :=
  (o.op.opds.filterMap fun | .t i => some i | .c _ => none) ++ (match o.guard with | some (g, _) => [g] | none => [])

def AOper.apart (x y : AOper) : Bool :=
  (match x.dst with | some d => !y.looks.contains d && y.dst != some d | none => true) && (match y.dst with | some d => !x.looks.contains d | none => true)

theorem AOper.apart_spec {x y : AOper} (h : x.apart y = true) : (∀ d, x.dst = some d → d ∉ y.looks) ∧ (∀ d, x.dst = some d → y.dst ≠ some d) ∧ (∀ d, y.dst = some d → d ∉ x.looks) := by
  refine ⟨fun d hd => ?_, fun d hd => ?_, fun d hd => ?_⟩ <;> simp [AOper.apart, hd] at h
  · exact h.1.1
  · exact h.1.2
  · exact h.2

/-! ### an operation's effect -/
section
variable {C : FuncId → Option Contract}

def eff (C : FuncId → Option Contract) (s : St) (o : AOper) : Option (Ans × List Key) :=
  match o.guard with
  | none => (act C (o.dst.getD noSlot) (AOpd.ev s.tm) o.op).run s.st []
  | some (g, want) => match s.tm.at g with
    | .bool b => if b = want then (act C (o.dst.getD noSlot) (AOpd.ev s.tm) o.op).run s.st [] else some (⟨.tuple [], []⟩, [])
    | .tuple [] => some (⟨.tuple [], []⟩, [])
    | _ => none

def St.go (s : St) (o : AOper) (an : Ans) : St := ⟨o.put s.tm an.v, s.st.puts an.up⟩

theorem step_eff (s : St) (o : AOper) : step C s o = (eff C s o).map fun p => (s.go o p.1, p.2, p.1.up.map (·.1)) := by
  rw [step_eq]
  unfold stepA eff
  cases o.guard with
  | none =>
    simp only
    cases (act C (o.dst.getD noSlot) (AOpd.ev s.tm) o.op).run s.st [] with
    | none => rfl
    | some p => rfl
  | some gw =>
    obtain ⟨g, want⟩ := gw
    simp only
    split
    · rename_i b hb
      simp only [hb]
      by_cases hbw : b = want
      · simp only [if_pos hbw]
        cases (act C (o.dst.getD noSlot) (AOpd.ev s.tm) o.op).run s.st [] with
        | none => rfl
        | some p => rfl
      · simp only [if_neg hbw]
        rfl
    · rename_i hb
      simp only [hb]
      rfl
    · rename_i h1 h2
      split
      · rename_i b hb; exact absurd hb (h1 b)
      · rename_i hb; exact absurd hb h2
      · rfl

theorem eff_agree {s s' : St} {o : AOper} {p : Ans × List Key} (h : eff C s o = some p) (ht : ∀ t ∈ o.looks, s.tm.at t = s'.tm.at t) (hk : ∀ k ∈ p.2, s.st.get k = s'.st.get k) : eff C s' o = some p := by
  have hact : act C (o.dst.getD noSlot) (AOpd.ev s.tm) o.op = act C (o.dst.getD noSlot) (AOpd.ev s'.tm) o.op := act_congr fun x hx => by
    cases x with
    | c v => rfl
    | t i => exact ht i (List.mem_append_left _ (List.mem_filterMap.2 ⟨_, hx, rfl⟩))
  unfold eff at h ⊢
  cases hg : o.guard with
  | none =>
    rw [hg] at h
    simp only at h ⊢
    rw [← hact]
    exact Act.run_agree _ h hk
  | some gw =>
    obtain ⟨g, want⟩ := gw
    rw [hg] at h
    simp only at h ⊢
    rw [← ht g (by simp [AOper.looks, hg])]
    split at h
    · split at h
      · rename_i hbw
        rw [if_pos hbw, ← hact]
        exact Act.run_agree _ h hk
      · rename_i hbw
        rw [if_neg hbw]
        exact h
    · exact h
    · cases h

def St.eqv (s s' : St) : Prop := (∀ t, s.tm.at t = s'.tm.at t) ∧ ∀ k, s.st.get k = s'.st.get k

theorem St.eqv_refl (s : St) : s.eqv s := ⟨fun _ => rfl, fun _ => rfl⟩
theorem St.eqv_symm {s s' : St} (h : s.eqv s') : s'.eqv s := ⟨fun t => (h.1 t).symm, fun k => (h.2 k).symm⟩
theorem St.eqv_trans {s s' s'' : St} (h : s.eqv s') (h' : s'.eqv s'') : s.eqv s'' := ⟨fun t => (h.1 t).trans (h'.1 t), fun k => (h.2 k).trans (h'.2 k)⟩

theorem puts_same : ∀ (up : List (Key × Obj)) {s s' : Store} {k : Key}, s.get k = s'.get k → (s.puts up).get k = (s'.puts up).get k
  | [], _, _, _, h => h
  | (k1, o1) :: r, s, s', k, h => by
    simp only [Store.puts]
    exact puts_same r (by simp only [Store.get_put, h])

theorem puts_not : ∀ (up : List (Key × Obj)) {s : Store} {k : Key}, k ∉ up.map (·.1) → (s.puts up).get k = s.get k
  | [], _, _, _ => rfl
  | (k1, o1) :: r, s, k, h => by
    simp only [List.map_cons, List.mem_cons, not_or] at h
    simp only [Store.puts]
    rw [puts_not r h.2, Store.get_put, if_neg fun he => h.1 he.symm]

theorem puts_in : ∀ (up : List (Key × Obj)) {s s' : Store} {k : Key}, k ∈ up.map (·.1) → (s.puts up).get k = (s'.puts up).get k
  | [], _, _, _, h => by simp at h
  | (k1, o1) :: r, s, s', k, h => by
    simp only [Store.puts]
    by_cases hr : k ∈ r.map (·.1)
    · exact puts_in r hr
    · have : k1 = k := by simp only [List.map_cons, List.mem_cons] at h; exact (h.resolve_right hr).symm
      rw [puts_not r hr, puts_not r hr, Store.get_put, Store.get_put, if_pos this, if_pos this]

theorem puts_comm {a b : List (Key × Obj)} (h : ∀ k, k ∈ a.map (·.1) → k ∉ b.map (·.1)) (s : Store) (k : Key) : ((s.puts a).puts b).get k = ((s.puts b).puts a).get k := by
  by_cases ha : k ∈ a.map (·.1)
  · rw [puts_not b (h k ha), puts_in a ha]
  · rw [puts_not a ha]
    exact puts_same b (puts_not a ha)

structure Item where
  idx : Nat
  op : AOper
  an : Ans
  rd : List Key

def Item.wr (x : Item) : List Key := x.an.up.map (·.1)

def Item.fits (x y : Item) : Prop := x.op.apart y.op = true ∧ compat (x.rd, x.wr) (y.rd, y.wr) = true

def Chain (C : FuncId → Option Contract) : St → List Item → St → Prop
  | s, [], t => s.eqv t
  | s, x :: r, t => eff C s x.op = some (x.an, x.rd) ∧ Chain C (s.go x.op x.an) r t

theorem go_eqv {s s' : St} (h : s.eqv s') (o : AOper) (an : Ans) : (s.go o an).eqv (s'.go o an) := by
  refine ⟨fun t => ?_, fun k => puts_same _ (h.2 k)⟩
  simp only [St.go, AOper.put]
  cases o.dst with
  | none => exact h.1 t
  | some d => simp only [Tm.at_cons]; rw [h.1 t]

theorem eff_eqv {s s' : St} (h : s.eqv s') {o : AOper} {p : Ans × List Key} (he : eff C s o = some p) : eff C s' o = some p :=
  eff_agree he (fun t _ => h.1 t) fun k _ => h.2 k

theorem Chain.eqv : ∀ {L : List Item} {s s' t : St}, Chain C s L t → s.eqv s' → Chain C s' L t
  | [], _, _, _, h, he => St.eqv_trans (St.eqv_symm he) h
  | x :: r, _, _, _, h, he => ⟨eff_eqv he h.1, Chain.eqv h.2 (go_eqv he _ _)⟩

theorem apartKeys_spec {a b : List Key} (h : apartKeys a b = true) : ∀ k ∈ a, k ∉ b := fun k hk => by
  have := List.all_eq_true.1 h k hk
  simpa using this

theorem at_put {o : AOper} {tm : Tm} {v : V} {t : Nat} (h : ∀ d, o.dst = some d → t ≠ d) : (o.put tm v).at t = tm.at t := by
  unfold AOper.put
  cases hd : o.dst with
  | none => rfl
  | some d => simp only [Tm.at_cons]; rw [if_neg fun he => h d hd he.symm]

theorem swap {s : St} {x y : Item} (hf : x.fits y) (hx : eff C s x.op = some (x.an, x.rd)) (hy : eff C (s.go x.op x.an) y.op = some (y.an, y.rd)) :
    eff C s y.op = some (y.an, y.rd) ∧ eff C (s.go y.op y.an) x.op = some (x.an, x.rd) ∧ ((s.go x.op x.an).go y.op y.an).eqv ((s.go y.op y.an).go x.op x.an) := by
  obtain ⟨h1, h2, h3⟩ := AOper.apart_spec hf.1
  have hc := hf.2
  simp only [compat, Bool.and_eq_true] at hc
  obtain ⟨⟨c1, c2⟩, c3⟩ := hc
  have c1 := apartKeys_spec c1
  have c2 := apartKeys_spec c2
  have c3 := apartKeys_spec c3
  refine ⟨?_, ?_, ?_, ?_⟩
  · refine eff_agree hy (fun t ht => at_put fun d hd he => h1 d hd (he ▸ ht)) fun k hk => ?_
    exact puts_not _ fun hm => c1 k hm hk
  · refine eff_agree hx (fun t ht => (at_put fun d hd he => h3 d hd (he ▸ ht)).symm) fun k hk => ?_
    exact (puts_not _ fun hm => c3 k hm hk).symm
  · intro t
    simp only [St.go, AOper.put]
    cases hxd : x.op.dst with
    | none => rfl
    | some d =>
      cases hyd : y.op.dst with
      | none => rfl
      | some e =>
        have : d ≠ e := fun he => h2 d hxd (by rw [hyd, he])
        simp only [Tm.at_cons]
        by_cases h1 : e = t
        · rw [if_pos h1, if_neg (fun h => this (h.trans h1.symm)), if_pos h1]
        · rw [if_neg h1, if_neg h1]
  · intro k
    exact puts_comm (fun k hk => c2 k hk) _ k

theorem Chain.pull {x : Item} {B : List Item} {t : St} : ∀ {A : List Item} {s : St}, Chain C s (A ++ x :: B) t → (∀ a ∈ A, a.fits x) → eff C s x.op = some (x.an, x.rd) ∧ Chain C (s.go x.op x.an) (A ++ B) t
  | [], _, h, _ => h
  | a :: A, s, h, hf => by
    obtain ⟨h1, h2⟩ := h
    obtain ⟨h3, h4⟩ := Chain.pull h2 fun b hb => hf b (by simp [hb])
    obtain ⟨e1, e2, e3⟩ := swap (hf a (by simp)) h1 h3
    exact ⟨e1, e2, h4.eqv e3⟩

theorem chain_of_log : ∀ {ops : List AOper} {s t : St} {l logs : List (List Key × List Key)} (k : Nat), runLog C s ops l = some (t, logs) →
    ∃ L : List Item, L.map (·.op) = ops ∧ L.map (·.idx) = List.range' k L.length ∧ logs = l.reverse ++ L.map (fun x => (x.rd, x.wr)) ∧ Chain C s L t
  | [], s, t, l, logs, k, h => by
    simp only [runLog] at h
    cases h
    exact ⟨[], rfl, rfl, by simp, St.eqv_refl _⟩
  | o :: r, s, t, l, logs, k, h => by
    simp only [runLog] at h
    split at h
    · rename_i s' rd wr hs
      rw [step_eff] at hs
      simp only [Option.map_eq_some_iff] at hs
      obtain ⟨⟨an, rd'⟩, he, hq⟩ := hs
      cases hq
      obtain ⟨L, h1, h2, h3, h4⟩ := chain_of_log (k + 1) h
      exact ⟨⟨k, o, an, rd'⟩ :: L, by simp [h1], by simp [h2, List.range'_succ], by simp [h3, Item.wr], he, h4⟩
    · cases h

theorem Chain.last : ∀ {L : List Item} {s t : St}, Chain C s L t → ∀ {t'}, t.eqv t' → Chain C s L t'
  | [], _, _, h, _, he => St.eqv_trans h he
  | _ :: _, _, _, h, _, he => ⟨h.1, Chain.last h.2 he⟩

end
end Go.Ev
