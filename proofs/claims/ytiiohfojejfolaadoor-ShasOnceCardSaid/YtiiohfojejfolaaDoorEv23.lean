/-
  Code: sequences, branches, blocks, loops.
-/
import Derived.Test.YtiiohfojejfolaaDoorEv22
import Derived.LoopN
set_option linter.unusedVariables false
set_option linter.unusedSimpArgs false
namespace Go.Ev
open Go

/-! ### keys that are let go -/
section
variable {F : Frz} {μ : Mu} {p : Key → Bool}

def Mu.only (μ : Mu) (p : Key → Bool) : Mu := fun k => if p k then μ k else none

mutual
theorem rel_only : ∀ (v : V) (u : Value), rel F μ v u → rel F (μ.only p) (v.only p) u
  | .undef, _, _ => by simp [V.only, rel]
  | .bool _, _, h => by simpa [V.only, rel] using h
  | .int .., _, h => by simpa [V.only, rel] using h
  | .str _, _, h => by simpa [V.only, rel] using h
  | .nil, _, h => by simpa [V.only, rel] using h
  | .ptr k o, u, h => by
    simp only [V.only]
    split
    · rename_i hk
      simp only [rel, Mu.only, hk, if_true] at h ⊢
      exact h
    · simp [rel]
  | .elem cs, _, h => by simpa [V.only, rel] using h
  | .slc e xs own, u, h => by
    cases own with
    | none => simpa [V.only, rel, ownRel] using h
    | nn => simpa only [V.only, rel, ownRel] using h
    | tight => simpa [V.only, rel, ownRel] using h
    | tok k s =>
      simp only [rel] at h
      obtain ⟨base, cap, hu, hb, ho⟩ := h
      simp only [V.only, rel]
      refine ⟨base, cap, hu, hb, ?_⟩
      split
      · rename_i hk
        simp only [ownRel, Mu.only, hk, if_true] at ho ⊢
        exact ho
      · exact ho.1
  | .nilslc, _, h => by simpa [V.only, rel] using h
  | .view k e o l c, u, h => by
    simp only [V.only]
    split
    · rename_i hk
      simp only [rel, Mu.only, hk, if_true] at h ⊢
      exact h
    · simp [rel]
  | .map k, u, h => by
    simp only [V.only]
    split
    · rename_i hk
      simp only [rel, Mu.only, hk, if_true] at h ⊢
      exact h
    · simp [rel]
  | .nilmap, _, h => by simpa [V.only, rel] using h
  | .func fn f c, u, h => by
    simp only [V.only, rel] at h ⊢
    obtain ⟨f', c', hu, h1, h2⟩ := h
    exact ⟨f', c', hu, rels_only f f' h1, rels_only c c' h2⟩
  | .nilfunc, _, h => by simpa [V.only, rel] using h
  | .iface t x, u, h => by
    simp only [V.only, rel] at h ⊢
    obtain ⟨u', hu, h1⟩ := h
    exact ⟨u', hu, rel_only x u' h1⟩
  | .nilIface, _, h => by simpa [V.only, rel] using h
  | .agg cs, u, h => by
    simp only [V.only, rel] at h ⊢
    obtain ⟨us, hu, h1⟩ := h
    exact ⟨us, hu, rels_only cs us h1⟩
  | .tuple vs, u, h => by
    simp only [V.only, rel] at h ⊢
    obtain ⟨us, hu, h1⟩ := h
    exact ⟨us, hu, rels_only vs us h1⟩
theorem rels_only : ∀ (vs : List V) (us : List Value), rels F μ vs us → rels F (μ.only p) (V.onlys p vs) us
  | [], _, h => by simpa [V.onlys, rels] using h
  | v :: r, us, h => by
    simp only [V.onlys, rels] at h ⊢
    obtain ⟨u, us', hu, h1, h2⟩ := h
    exact ⟨u, us', hu, rel_only v u h1, rels_only r us' h2⟩
end

theorem mapRel_only : ∀ {es : List (V × V)} {l : List MapEntry}, mapRel F μ es l → mapRel F (μ.only p) (es.map fun (k, v) => (k, v.only p)) l
  | [], _, h => h
  | (k, v) :: r, _, h => by
    obtain ⟨e, es', hl, h1, h2, hr⟩ := h
    exact ⟨e, es', hl, h1, rel_only v _ h2, mapRel_only hr⟩

theorem objRel_only {w : World} {o : Obj} {h : Hd} (hr : objRel F μ w o h) : objRel F (μ.only p) w (o.only p) h := by
  cases o with
  | cells cs =>
    cases h with
    | blk b =>
      obtain ⟨us, ty, hw, hc, hn⟩ := hr
      exact ⟨us, ty, hw, rels_only cs us hc, hn⟩
    | spare => exact hr.elim
  | map es =>
    cases h with
    | blk b =>
      obtain ⟨ents, clock, hw, hc⟩ := hr
      exact ⟨ents, clock, hw, mapRel_only hc⟩
    | spare => exact hr.elim
  | tok n =>
    cases h with
    | blk b => exact hr.elim
    | spare b pos r e n' => exact hr

theorem cleanSt_get : ∀ (σ : Store) (k : Key), (cleanSt p σ).get k = if p k then (σ.get k).map (Obj.only p) else none
  | [], k => by simp [cleanSt, Store.get]
  | (k', o) :: r, k => by
    simp only [cleanSt]
    split
    · rename_i hp
      simp only [Store.get]
      split
      · rename_i he; subst he; simp [hp]
      · exact cleanSt_get r k
    · rename_i hp
      simp only [Store.get]
      rw [cleanSt_get r k]
      by_cases he : k' = k
      · subst he; simp [hp]
      · rw [if_neg he]

theorem cleanTm_at (tm : Tm) (t : Nat) : ∀ (slots : List Nat), (cleanTm p tm slots).at t = .undef ∨ (cleanTm p tm slots).at t = (tm.at t).only p
  | [] => .inl rfl
  | i :: r => by
    simp only [cleanTm, Tm.at_cons]
    by_cases h : i = t
    · subst h; rw [if_pos rfl]; exact .inr rfl
    · rw [if_neg h]; exact cleanTm_at tm t r

theorem tmRel_clean {tm : Tm} {us : Array Value} (h : TmRel F μ tm us) (slots : List Nat) : TmRel F (μ.only p) (cleanTm p tm slots) us := fun i => by
  rcases cleanTm_at (p := p) tm i slots with h' | h'
  · rw [h']; simp [rel]
  · rw [h']; exact rel_only _ _ (h i)

/-- Of the objects that came in, the same is known later. -/
def Mu.leA (μ μ' : Mu) : Prop := ∀ i h, μ (.arg i) = some h → ∃ h', μ' (.arg i) = some h' ∧ h.le h'

theorem Mu.le.leA {μ μ' : Mu} (h : μ.le μ') : μ.leA μ' := fun _ _ hk => h _ _ hk
theorem Mu.leA_refl (μ : Mu) : μ.leA μ := (Mu.le_refl μ).leA
theorem Mu.leA_trans {a b c : Mu} (h : a.leA b) (h' : b.leA c) : a.leA c := fun i x hx =>
  let ⟨y, hy, l⟩ := h i x hx
  let ⟨z, hz, l'⟩ := h' i y hy
  ⟨z, hz, Hd.le_trans l l'⟩

theorem StRel.clean {n : Nat} {s : St} {a : Go.Act} {w : World} (h : StRel n F μ s a w) (slots keys : List Nat) :
    ∃ μ', StRel n F μ' (clean slots keys s) a w ∧ Ext μ F w μ' F w ∧ μ.leA μ' := by
  refine ⟨μ.only (keepKey keys), ⟨⟨h.inv.frozen, fun k o hk => ?_, fun k hd hk => ?_, fun k k' hd hd' hne hk hk' => ?_⟩, tmRel_clean h.tm slots, h.dn, h.sz⟩, ?_, fun i hd hk => ⟨hd, by simpa [Mu.only, keepKey] using hk, Hd.le_refl _⟩⟩
  · simp only [Go.Ev.clean, cleanSt_get] at hk
    split at hk
    · rename_i hp
      simp only [Option.map_eq_some_iff] at hk
      obtain ⟨o', ho', rfl⟩ := hk
      obtain ⟨hd, h1, h2⟩ := h.inv.dom1 k o' ho'
      exact ⟨hd, by simp [Mu.only, hp, h1], objRel_only h2⟩
    · cases hk
  · simp only [Mu.only] at hk
    split at hk
    · rename_i hp
      obtain ⟨o, ho⟩ := h.inv.dom2 k hd hk
      exact ⟨o.only (keepKey keys), by simp [Go.Ev.clean, cleanSt_get, hp, ho]⟩
    · cases hk
  · simp only [Mu.only] at hk hk'
    split at hk <;> first | (cases hk; done) | skip
    split at hk' <;> first | (cases hk'; done) | skip
    exact h.inv.apart k k' hd hd' hne hk hk'
  · have := Ext.refl μ F w
    exact ⟨this.le, this.size, this.keep, this.os, this.out, this.fresh, fun k hd hk => by
      simp only [Mu.only] at hk
      split at hk
      · exact this.hd k hd hk
      · cases hk⟩

end

/-! ### code -/
def exOf : Ex → Exit
  | .normal => .normal
  | .exit id => .exit id
  | .ret => .ret

def okDst (n : Nat) (ops : Array Oper) : Bool := ops.toList.all fun o => match o.dst with | some d => decide (d < n) | none => true

theorem okDst_spec {n : Nat} {ops : Array Oper} (h : okDst n ops = true) (o : Oper) (ho : o ∈ ops.toList) (d : Nat) (hd : o.dst = some d) : d < n := by
  have := List.all_eq_true.1 h o ho
  simpa [hd] using this

def okCode (n : Nat) : Code → ACode → Bool
  | .region _ ops true, .drawn aops _ => drawnOk ops aops && okDst n ops
  | .region _ ops false, _ => okDst n ops
  | .seq a b, .seq a' b' => okCode n a a' && okCode n b b'
  | .cond _ a b, .cond _ a' b' => okCode n a a' && okCode n b b'
  | .block _ b, .block _ b' => okCode n b b'
  | .loop b, .loop _ _ b' => okCode n b b'
  | _, _ => true

section
variable {P : Program} {G : Globals} {C : FuncId → Option Contract} {h : Hints} {n : Nat}

theorem hP (F : Frz) (hG : ∀ g cs, G.get g = some cs → frz F g 0 cs) (F' : Frz) (hle : F.le F') (g : Nat) (cs : List V) (hg : G.get g = some cs) : frz F' g 0 cs :=
  frz_mono hle _ _ cs (hG g cs hg)

theorem Inv.drawn {F : Frz} {μ : Mu} {σ : Store} {w : World} (h : Inv F μ σ w) (n : Nat) : Inv F μ σ { w with drawn := n } := by
  refine ⟨h.frozen, fun k o hk => ?_, h.dom2, h.apart⟩
  obtain ⟨hd, h1, h2⟩ := h.dom1 k o hk
  refine ⟨hd, h1, ?_⟩
  cases o <;> cases hd <;> exact h2

theorem Ext.drawn (μ : Mu) (F : Frz) (w : World) (n : Nat) : Ext μ F w μ F { w with drawn := n } :=
  Ext.grow (Frz.le_refl F) (Nat.le_refl _) (fun _ _ => rfl) (fun _ _ h => .inl h) rfl rfl

theorem Chain.len {C : FuncId → Option Contract} : ∀ {L : List Item} {ops : List AOper}, L.map (·.op) = ops → L.length = ops.length := fun h => by rw [← h]; simp

theorem region_wp (hS : Sound P G C) (hM : P.follows .mixedOrders = true) {id : Nat} {ops : Array Oper} {draw : Bool} {acc : List Nat} {l : List AOper} (hp : (if draw then prepOpers P G acc ops ops.toList else prepSeq P G acc ops ops.toList) = some l)
    {s t : St} {a : Go.Act} {w : World} {F : Frz} {μ : Mu} {Q : Exit → Go.Act → World → Prop} (hd : draw = true → drawnOk ops l = true) (hdst : okDst n ops = true)
    (hr : if draw then ∃ logs, runLog C s l [] = some (t, logs) ∧ okPairs logs (freeBits ops) = true else runOps C s l = some t) (hR : StRel n F μ s a w) (hG : ∀ g cs, G.get g = some cs → frz F g 0 cs)
    (hQ : ∀ F' μ' a' w', Ext μ F w μ' F' w' → μ.le μ' → StRel n F' μ' t a' w' → Q .normal a' w') : (Code.region id ops draw).wp P Q a w := by
  cases draw with
  | false => exact wp_region_list (list_wp hS hP (by simpa using hp) (by simpa using hr) (fun o ho => okDst_spec hdst o ho) hR hG hQ)
  | true =>
    simp only [if_true] at hr hp
    obtain ⟨logs, hlog, hok⟩ := hr
    have hD := drawnOk_spec (hd rfl)
    obtain ⟨hlen, hget⟩ := prepOpers_get hp
    obtain ⟨L, h1, h2, h3, h4⟩ := chain_of_log 0 hlog
    have hL : L.length = ops.size := by rw [Chain.len (C := C) h1, hlen]; simp
    have hidx : ∀ (i : Nat) (x : Item), L[i]? = some x → x.idx = i := fun i x hx => by
      have : (L.map (·.idx))[i]? = some x.idx := by simp [hx]
      rw [h2, List.getElem?_range'] at this
      · simpa using this.symm
      · exact (List.getElem?_eq_some_iff.1 hx).1
    have hopx : ∀ (i : Nat) (x : Item), L[i]? = some x → l[i]? = some x.op := fun i x hx => by
      rw [← h1]; simp [hx]
    have hlogx : ∀ (i : Nat) (x : Item), L[i]? = some x → logs[i]? = some (x.rd, x.wr) := fun i x hx => by
      rw [h3]; simp [hx]
    refine wp_region_any hM (any_wp hS hP (aops := l) (fun i o ho => hget i o (by simpa using ho)) hD (fun i o ho => okDst_spec hdst o (by simpa using Array.mem_of_getElem? ho)) ops.size h4 hL (by simp) ?_ ?_ ?_ ?_ ?_ ⟨hR.inv.drawn _, hR.tm, hR.dn, hR.sz⟩ hG
      fun F' μ' a' w' hx hm hR' => hQ F' μ' a' w' ((Ext.drawn μ F w _).trans hx) hm hR')
    · intro x hx
      obtain ⟨i, hi⟩ := List.getElem?_of_mem hx
      rw [hidx i x hi]
      exact hopx i x hi
    · rw [List.pairwise_iff_getElem]
      intro i j hi hj hij
      rw [hidx i _ (List.getElem?_eq_getElem hi), hidx j _ (List.getElem?_eq_getElem hj)]
      exact hij
    · intro i
      constructor
      · rintro ⟨x, hx, rfl⟩
        obtain ⟨i, hi⟩ := List.getElem?_of_mem hx
        rw [hidx i x hi]
        have : i < ops.size := by rw [← hL]; exact (List.getElem?_eq_some_iff.1 hi).1
        exact ⟨this, by simp [this]⟩
      · rintro ⟨hi, _⟩
        have hi' : i < L.length := by rw [hL]; exact hi
        exact ⟨L[i], List.getElem_mem hi', hidx i _ (List.getElem?_eq_getElem hi')⟩
    · intro j k hj
      by_cases hjs : j < ops.size <;> simp [hjs] at hj
    · rw [List.pairwise_iff_getElem]
      intro i j hi hj hij
      have gi := List.getElem?_eq_getElem hi
      have gj := List.getElem?_eq_getElem hj
      rw [hidx i _ gi, hidx j _ gj]
      cases hb : bit (ahead ops) j i with
      | true => exact .inl rfl
      | false =>
        refine .inr ⟨hD.apart j i _ _ (by omega) hij (hopx j _ gj) (hopx i _ gi) hb, ?_⟩
        exact okPairs_spec hok (freeBits_bit hij (by omega) hb) (hlogx i _ gi) (hlogx j _ gj)

theorem iter_ex {f : St → Option (Ex × St)} : ∀ {n : Nat} {s t : St} {ex : Ex}, iter f n s = some (ex, t) → ex ≠ .normal
  | 0, _, _, _, h => by simp [iter] at h
  | n + 1, s, t, ex, h => by
    simp only [iter] at h
    split at h
    · exact iter_ex h
    · rename_i hn
      rintro rfl
      exact hn _ h

theorem code_wp (hS : Sound P G C) (hM : P.follows .mixedOrders = true) (fuel : Nat) : ∀ (c : Code) {ac : ACode} {s t : St} {ex : Ex} {a : Go.Act} {w : World} {F : Frz} {μ : Mu} {Q : Exit → Go.Act → World → Prop},
    prep P G h c = some ac → okCode n c ac = true → evalCode C fuel ac s = some (ex, t) → StRel n F μ s a w → (∀ g cs, G.get g = some cs → frz F g 0 cs) →
    (∀ F' μ' a' w', Ext μ F w μ' F' w' → μ.leA μ' → StRel n F' μ' t a' w' → Q (exOf ex) a' w') → c.wp P Q a w
  | .skip, ac, s, t, ex, a, w, F, μ, Q, hp, hok, hev, hR, hG, hQ => by
    simp only [prep] at hp; cases hp
    simp only [evalCode] at hev; cases hev
    exact wp_skip (hQ F μ a w (Ext.refl ..) (Mu.leA_refl _) hR)
  | .region id ops draw, ac, s, t, ex, a, w, F, μ, Q, hp, hok, hev, hR, hG, hQ => by
    simp only [prep] at hp
    cases draw with
    | false =>
      simp only [Bool.false_eq_true, if_false] at hp
      split at hp <;> first | (cases hp; done) | skip
      rename_i l hl
      cases hp
      simp only [evalCode] at hev
      split at hev <;> cases hev
      rename_i hr
      exact region_wp hS hM (by simpa using hl) (fun hd => by cases hd) hok (by simpa using hr) hR hG fun F' μ' a' w' hx hm hR' => hQ F' μ' a' w' hx hm.leA hR'
    | true =>
      simp only [if_true] at hp
      split at hp <;> first | (cases hp; done) | skip
      rename_i l hl
      cases hp
      simp only [evalCode] at hev
      split at hev <;> first | (cases hev; done) | skip
      rename_i s' logs hr
      split at hev <;> cases hev
      rename_i hpairs
      simp only [okCode, Bool.and_eq_true] at hok
      exact region_wp hS hM (by simpa using hl) (fun _ => hok.1) hok.2 (by simpa using ⟨logs, hr, hpairs⟩) hR hG fun F' μ' a' w' hx hm hR' => hQ F' μ' a' w' hx hm.leA hR'
  | .seq x y, ac, s, t, ex, a, w, F, μ, Q, hp, hok, hev, hR, hG, hQ => by
    simp only [prep] at hp
    split at hp <;> cases hp
    rename_i ax ay hx hy
    simp only [okCode, Bool.and_eq_true] at hok
    simp only [evalCode] at hev
    split at hev
    · rename_i s1 h1
      exact wp_seq (code_wp hS hM fuel x hx hok.1 h1 hR hG fun F' μ' a' w' he hm hR' =>
        code_wp hS hM fuel y hy hok.2 hev hR' (hP F hG F' he.le) fun F'' μ'' a'' w'' he' hm' hR'' => hQ F'' μ'' a'' w'' (he.trans he') (Mu.leA_trans hm hm') hR'')
    · rename_i hn
      refine wp_seq (code_wp hS hM fuel x hx hok.1 hev hR hG fun F' μ' a' w' he hm hR' => ?_)
      have := hQ F' μ' a' w' he hm hR'
      cases ex with
      | normal => exact absurd hev (hn t)
      | exit id => exact this
      | ret => exact this
  | .cond c x y, ac, s, t, ex, a, w, F, μ, Q, hp, hok, hev, hR, hG, hQ => by
    simp only [prep] at hp
    split at hp <;> cases hp
    rename_i ac' ax ay hc hx hy
    simp only [okCode, Bool.and_eq_true] at hok
    simp only [evalCode] at hev
    have hrc := rel_opd (a := a) hG hR.tm hc
    split at hev
    · rename_i hb
      rw [hb] at hrc
      simp only [rel] at hrc
      exact wp_cond_true hrc (code_wp hS hM fuel x hx hok.1 hev hR hG hQ)
    · rename_i hb
      rw [hb] at hrc
      simp only [rel] at hrc
      exact wp_cond_false hrc (code_wp hS hM fuel y hy hok.2 hev hR hG hQ)
    · cases hev
  | .block id b, ac, s, t, ex, a, w, F, μ, Q, hp, hok, hev, hR, hG, hQ => by
    simp only [prep, Option.map_eq_some_iff] at hp
    obtain ⟨ab, hb, rfl⟩ := hp
    simp only [okCode] at hok
    simp only [evalCode] at hev
    split at hev
    · rename_i j s1 h1
      refine wp_block (code_wp hS hM fuel b hb hok h1 hR hG fun F' μ' a' w' he hm hR' => ?_)
      simp only [exOf, Exit.inBlock]
      split at hev
      · rename_i hj
        cases hev
        rw [if_pos hj]
        exact hQ F' μ' a' w' he hm hR'
      · rename_i hj
        cases hev
        rw [if_neg hj]
        exact hQ F' μ' a' w' he hm hR'
    · rename_i hn
      refine wp_block (code_wp hS hM fuel b hb hok hev hR hG fun F' μ' a' w' he hm hR' => ?_)
      have := hQ F' μ' a' w' he hm hR'
      cases ex with
      | normal => exact this
      | exit j => exact absurd hev (hn j t)
      | ret => exact this
  | .loop b, ac, s, t, ex, a, w, F, μ, Q, hp, hok, hev, hR, hG, hQ => by
    simp only [prep, Option.map_eq_some_iff] at hp
    obtain ⟨ab, hb, rfl⟩ := hp
    simp only [okCode] at hok
    simp only [evalCode] at hev
    have key : ∀ (m : Nat) {s t : St} {ex : Ex} {a : Go.Act} {w : World} {F : Frz} {μ : Mu}, iter (fun s => evalCode C fuel ab (clean (h.loop b).1 (h.loop b).2 s)) m s = some (ex, t) → StRel n F μ s a w → (∀ g cs, G.get g = some cs → frz F g 0 cs) →
        (∀ F' μ' a' w', Ext μ F w μ' F' w' → μ.leA μ' → StRel n F' μ' t a' w' → Q (exOf ex) a' w') → Code.rounds P b Q m a w := by
      intro m
      induction m with
      | zero => intro s t ex a w F μ hev; simp [iter] at hev
      | succ m ih =>
        intro s t ex a w F μ hev hR hG hQ
        have hne := iter_ex hev
        obtain ⟨μ1, hR1, hx1, hm1⟩ := hR.clean (h.loop b).1 (h.loop b).2
        simp only [iter] at hev
        simp only [Code.rounds]
        split at hev
        · rename_i s1 h1
          exact code_wp hS hM fuel b hb hok h1 hR1 hG fun F' μ' a' w' he hm hR' =>
            ih hev hR' (hP F hG F' he.le) fun F'' μ'' a'' w'' he' hm' hR'' => hQ F'' μ'' a'' w'' (hx1.trans (he.trans he')) (Mu.leA_trans hm1 (Mu.leA_trans hm hm')) hR''
        · refine code_wp hS hM fuel b hb hok hev hR1 hG fun F' μ' a' w' he hm hR' => ?_
          have := hQ F' μ' a' w' (hx1.trans he) (Mu.leA_trans hm1 hm) hR'
          cases ex with
          | normal => exact absurd rfl hne
          | exit id => exact this
          | ret => exact this
    exact wp_loop_rounds fuel (key fuel hev hR hG hQ)
  | .exit id, ac, s, t, ex, a, w, F, μ, Q, hp, hok, hev, hR, hG, hQ => by
    simp only [prep] at hp; cases hp
    simp only [evalCode] at hev; cases hev
    exact wp_exit (hQ F μ a w (Ext.refl ..) (Mu.leA_refl _) hR)
  | .ret, ac, s, t, ex, a, w, F, μ, Q, hp, hok, hev, hR, hG, hQ => by
    simp only [prep] at hp; cases hp
    simp only [evalCode] at hev; cases hev
    exact wp_ret (hQ F μ a w (Ext.refl ..) (Mu.leA_refl _) hR)
  | .rangeFunc .., ac, s, t, ex, a, w, F, μ, Q, hp, hok, hev, hR, hG, hQ => by simp [prep] at hp
  | .scope .., ac, s, t, ex, a, w, F, μ, Q, hp, hok, hev, hR, hG, hQ => by simp [prep] at hp
  | .label .., ac, s, t, ex, a, w, F, μ, Q, hp, hok, hev, hR, hG, hQ => by simp [prep] at hp
  | .goto .., ac, s, t, ex, a, w, F, μ, Q, hp, hok, hev, hR, hG, hQ => by simp [prep] at hp

end
end Go.Ev
