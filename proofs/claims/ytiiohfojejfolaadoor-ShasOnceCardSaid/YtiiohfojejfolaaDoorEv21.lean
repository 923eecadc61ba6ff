/-
  Operations in any order: what each one reads and writes, and that two which are apart may change places.
-/
import Derived.Test.YtiiohfojejfolaaDoorEv20
set_option linter.unusedVariables false
set_option linter.unusedSimpArgs false
namespace Go.Ev
open Go

/-! ### reading is local -/
theorem Act.run_log {α : Type} : ∀ (f : Act α) {σ : Store} {l l' : List Key} {x : α}, f.run σ l = some (x, l') → ∃ m, l' = m ++ l
  | .ret a, _, _, _, _, h => by simp only [Act.run] at h; cases h; exact ⟨[], rfl⟩
  | .fail, _, _, _, _, h => by simp [Act.run] at h
  | .get k f, _, _, _, _, h => by
    simp only [Act.run] at h
    split at h
    · rename_i o ho
      obtain ⟨m, rfl⟩ := Act.run_log (f o) h
      exact ⟨m ++ [k], by simp⟩
    · cases h
  | .new k f, _, _, _, _, h => by
    simp only [Act.run] at h
    split at h
    · cases h
    · obtain ⟨m, rfl⟩ := Act.run_log f h
      exact ⟨m ++ [k], by simp⟩

theorem Act.run_agree {α : Type} : ∀ (f : Act α) {σ σ' : Store} {l l' : List Key} {x : α}, f.run σ l = some (x, l') → (∀ k ∈ l', σ.get k = σ'.get k) → f.run σ' l = some (x, l')
  | .ret a, _, _, _, _, _, h, _ => by simpa only [Act.run] using h
  | .fail, _, _, _, _, _, h, _ => by simp [Act.run] at h
  | .get k f, σ, σ', _, l', _, h, ha => by
    simp only [Act.run] at h ⊢
    split at h
    · rename_i o ho
      obtain ⟨m, hm⟩ := Act.run_log (f o) h
      rw [← ha k (by simp [hm]), ho]
      exact Act.run_agree (f o) h ha
    · cases h
  | .new k f, σ, σ', _, l', _, h, ha => by
    simp only [Act.run] at h ⊢
    split at h
    · cases h
    · rename_i ho
      obtain ⟨m, hm⟩ := Act.run_log f h
      rw [← ha k (by simp [hm]), ho]
      exact Act.run_agree f h ha

def AOp.opds : AOp → List AOpd
  | .mv x => [x]
  | .nilrow _ => []
  | .pick c a b => [c, a, b]
  | .alloc _ => []
  | .box _ x => [x]
  | .build _ ps => ps.map (·.2.2)
  | .buildSlice _ _ ps => ps
  | .load _ _ a => [a]
  | .store _ a x => [a, x]
  | .nilCheck x => [x]
  | .bin _ _ x y => [x, y]
  | .eqAgg _ _ x y => [x, y]
  | .un _ x => [x]
  | .convInt _ x => [x]
  | .convSame x => [x]
  | .bytesOf x => [x]
  | .stringOf x => [x]
  | .arrOf _ x => [x]
  | .func _ a b => a ++ b
  | .makeMap => []
  | .makeSlice _ _ _ _ l c => [l, c]
  | .makeRow _ l c => [l, c]
  | .sliceS _ x lo hi mx => x :: (lo.toList ++ hi.toList ++ mx.toList)
  | .sliceA _ _ x lo hi mx => x :: (lo.toList ++ hi.toList ++ mx.toList)
  | .sliceT x lo hi => x :: (lo.toList ++ hi.toList)
  | .fieldAddr _ x => [x]
  | .field _ _ _ x => [x]
  | .indexS _ x i => [x, i]
  | .indexA _ _ x i => [x, i]
  | .indexT x i => [x, i]
  | .lookup _ _ m k _ => [m, k]
  | .mapSet _ m k v => [m, k, v]
  | .delete _ m k => [m, k]
  | .lenS x => [x]
  | .lenT x => [x]
  | .lenM x => [x]
  | .lenA _ => []
  | .cap x => [x]
  | .append _ _ s x => [s, x]
  | .appendZ s x => [s, x]
  | .copy _ d x => [d, x]
  | .min x r => x :: r
  | .max x r => x :: r
  | .clearMap x => [x]
  | .call _ args => args
  | .callv f args => f :: args
  | .extract x _ => [x]

theorem fillArgs_congr {ρ ρ' : AOpd → V} : ∀ {ps : List (Nat × Nat × AOpd)}, (∀ x ∈ ps.map (·.2.2), ρ x = ρ' x) → fillArgs ρ ps = fillArgs ρ' ps
  | [], _ => rfl
  | (o, n, x) :: r, h => by
    simp only [fillArgs]
    rw [h x (by simp), fillArgs_congr fun y hy => h y (by simp at hy ⊢; exact .inr hy)]

theorem map_congr' {ρ ρ' : AOpd → V} {l : List AOpd} (h : ∀ x ∈ l, ρ x = ρ' x) : l.map ρ = l.map ρ' := List.map_congr_left h

theorem omap_congr {ρ ρ' : AOpd → V} {l : Option AOpd} (h : ∀ x ∈ l.toList, ρ x = ρ' x) : l.map ρ = l.map ρ' := by
  cases l with
  | none => rfl
  | some x => simp [h x (by simp)]

theorem act_congr {C : FuncId → Option Contract} {d : Nat} {ρ ρ' : AOpd → V} {op : AOp} (h : ∀ x ∈ op.opds, ρ x = ρ' x) : act C d ρ op = act C d ρ' op := by
  cases op <;> simp only [AOp.opds] at h
  case build z ps => simp only [act]; rw [fillArgs_congr h]
  case buildSlice e a ps => simp only [act]; rw [map_congr' h]
  case func fn a b => simp only [act]; rw [map_congr' (l := a) fun x hx => h x (by simp [hx]), map_congr' (l := b) fun x hx => h x (by simp [hx])]
  case sliceS e x lo hi mx => simp only [act]; rw [h x (by simp), omap_congr (l := lo) fun x hx => h x (by simp at hx; simp [hx]), omap_congr (l := hi) fun x hx => h x (by simp at hx; simp [hx]), omap_congr (l := mx) fun x hx => h x (by simp at hx; simp [hx])]
  case sliceA n e x lo hi mx => simp only [act]; rw [h x (by simp), omap_congr (l := lo) fun x hx => h x (by simp at hx; simp [hx]), omap_congr (l := hi) fun x hx => h x (by simp at hx; simp [hx]), omap_congr (l := mx) fun x hx => h x (by simp at hx; simp [hx])]
  case sliceT x lo hi => simp only [act]; rw [h x (by simp), omap_congr (l := lo) fun x hx => h x (by simp at hx; simp [hx]), omap_congr (l := hi) fun x hx => h x (by simp at hx; simp [hx])]
  case min x r => simp only [act]; rw [h x (by simp), map_congr' (l := r) fun x hx => h x (by simp [hx])]
  case max x r => simp only [act]; rw [h x (by simp), map_congr' (l := r) fun x hx => h x (by simp [hx])]
  case call f args => simp only [act]; rw [map_congr' h]
  case callv f args => simp only [act]; rw [h f (by simp), map_congr' (l := args) fun x hx => h x (by simp [hx])]
  case nilrow => rfl
  case alloc => rfl
  case makeMap => rfl
  case lenA => rfl
  case pick c a b => simp only [act]; rw [h c (by simp), h a (by simp), h b (by simp)]
  case store n a x => simp only [act]; rw [h a (by simp), h x (by simp)]
  case bin k o x y => simp only [act]; rw [h x (by simp), h y (by simp)]
  case eqAgg k o x y => simp only [act]; rw [h x (by simp), h y (by simp)]
  case makeSlice l c => simp only [act]; rw [h l (by simp), h c (by simp)]
  case makeRow l c => simp only [act]; rw [h l (by simp), h c (by simp)]
  case appendZ l c => simp only [act]; rw [h l (by simp), h c (by simp)]
  case indexS x i => simp only [act]; rw [h x (by simp), h i (by simp)]
  case indexA x i => simp only [act]; rw [h x (by simp), h i (by simp)]
  case indexT x i => simp only [act]; rw [h x (by simp), h i (by simp)]
  case lookup m k o => simp only [act]; rw [h m (by simp), h k (by simp)]
  case mapSet m k v => simp only [act]; rw [h m (by simp), h k (by simp), h v (by simp)]
  case delete m k => simp only [act]; rw [h m (by simp), h k (by simp)]
  case append e b s x => simp only [act]; rw [h s (by simp), h x (by simp)]
  case copy e d x => simp only [act]; rw [h d (by simp), h x (by simp)]
  all_goals (rename_i x; first | (simp only [act]; rw [h x (by simp)]) | (simp only [act]; rw [h _ (by simp)]))

def AOper.looks (o : AOper) : List Nat :=
  (o.op.opds.filterMap fun | .t i => some i | .c _ => none) ++ (match o.guard with | some (g, _) => [g] | none => [])

def AOper.apart (x y : AOper) : Bool :=
  (match x.dst with | some d => !y.looks.contains d && y.dst != some d | none => true) && (match y.dst with | some d => !x.looks.contains d | none => true)

theorem AOper.apart_spec {x y : AOper} (h : x.apart y = true) : (∀ d, x.dst = some d → d ∉ y.looks) ∧ (∀ d, x.dst = some d → y.dst ≠ some d) ∧ (∀ d, y.dst = some d → d ∉ x.looks) := by
  refine ⟨fun d hd => ?_, fun d hd => ?_, fun d hd => ?_⟩ <;> simp [AOper.apart, hd] at h
  · exact h.1.1
  · exact h.1.2
  · exact h.2

/-! ### an operation's effect -/
section
variable {C : FuncId → Option Contract}

def eff (C : FuncId → Option Contract) (s : St) (o : AOper) : Option (Ans × List Key) :=
  match o.guard with
  | none => (act C (o.dst.getD noSlot) (AOpd.ev s.tm) o.op).run s.st []
  | some (g, want) => match s.tm.at g with
    | .bool b => if b = want then (act C (o.dst.getD noSlot) (AOpd.ev s.tm) o.op).run s.st [] else some (⟨.tuple [], []⟩, [])
    | .tuple [] => some (⟨.tuple [], []⟩, [])
    | _ => none

def St.go (s : St) (o : AOper) (an : Ans) : St := ⟨o.put s.tm an.v, s.st.puts an.up⟩

theorem step_eff (s : St) (o : AOper) : step C s o = (eff C s o).map fun p => (s.go o p.1, p.2, p.1.up.map (·.1)) := by
  rw [step_eq]
  unfold stepA eff
  cases o.guard with
  | none =>
    simp only
    cases (act C (o.dst.getD noSlot) (AOpd.ev s.tm) o.op).run s.st [] with
    | none => rfl
    | some p => rfl
  | some gw =>
    obtain ⟨g, want⟩ := gw
    simp only
    split
    · rename_i b hb
      simp only [hb]
      by_cases hbw : b = want
      · simp only [if_pos hbw]
        cases (act C (o.dst.getD noSlot) (AOpd.ev s.tm) o.op).run s.st [] with
        | none => rfl
        | some p => rfl
      · simp only [if_neg hbw]
        rfl
    · rename_i hb
      simp only [hb]
      rfl
    · rename_i h1 h2
      split
      · rename_i b hb; exact absurd hb (h1 b)
      · rename_i hb; exact absurd hb h2
      · rfl

theorem eff_agree {s s' : St} {o : AOper} {p : Ans × List Key} (h : eff C s o = some p) (ht : ∀ t ∈ o.looks, s.tm.at t = s'.tm.at t) (hk : ∀ k ∈ p.2, s.st.get k = s'.st.get k) : eff C s' o = some p := by
  have hact : act C (o.dst.getD noSlot) (AOpd.ev s.tm) o.op = act C (o.dst.getD noSlot) (AOpd.ev s'.tm) o.op := act_congr fun x hx => by
    cases x with
    | c v => rfl
    | t i => exact ht i (List.mem_append_left _ (List.mem_filterMap.2 ⟨_, hx, rfl⟩))
  unfold eff at h ⊢
  cases hg : o.guard with
  | none =>
    rw [hg] at h
    simp only at h ⊢
    rw [← hact]
    exact Act.run_agree _ h hk
  | some gw =>
    obtain ⟨g, want⟩ := gw
    rw [hg] at h
    simp only at h ⊢
    rw [← ht g (by simp [AOper.looks, hg])]
    split at h
    · split at h
      · rename_i hbw
        rw [if_pos hbw, ← hact]
        exact Act.run_agree _ h hk
      · rename_i hbw
        rw [if_neg hbw]
        exact h
    · exact h
    · cases h

def St.eqv (s s' : St) : Prop := (∀ t, s.tm.at t = s'.tm.at t) ∧ ∀ k, s.st.get k = s'.st.get k

theorem St.eqv_refl (s : St) : s.eqv s := ⟨fun _ => rfl, fun _ => rfl⟩
theorem St.eqv_symm {s s' : St} (h : s.eqv s') : s'.eqv s := ⟨fun t => (h.1 t).symm, fun k => (h.2 k).symm⟩
theorem St.eqv_trans {s s' s'' : St} (h : s.eqv s') (h' : s'.eqv s'') : s.eqv s'' := ⟨fun t => (h.1 t).trans (h'.1 t), fun k => (h.2 k).trans (h'.2 k)⟩

theorem puts_same : ∀ (up : List (Key × Obj)) {s s' : Store} {k : Key}, s.get k = s'.get k → (s.puts up).get k = (s'.puts up).get k
  | [], _, _, _, h => h
  | (k1, o1) :: r, s, s', k, h => by
    simp only [Store.puts]
    exact puts_same r (by simp only [Store.get_put, h])

theorem puts_not : ∀ (up : List (Key × Obj)) {s : Store} {k : Key}, k ∉ up.map (·.1) → (s.puts up).get k = s.get k
  | [], _, _, _ => rfl
  | (k1, o1) :: r, s, k, h => by
    simp only [List.map_cons, List.mem_cons, not_or] at h
    simp only [Store.puts]
    rw [puts_not r h.2, Store.get_put, if_neg fun he => h.1 he.symm]

theorem puts_in : ∀ (up : List (Key × Obj)) {s s' : Store} {k : Key}, k ∈ up.map (·.1) → (s.puts up).get k = (s'.puts up).get k
  | [], _, _, _, h => by simp at h
  | (k1, o1) :: r, s, s', k, h => by
    simp only [Store.puts]
    by_cases hr : k ∈ r.map (·.1)
    · exact puts_in r hr
    · have : k1 = k := by simp only [List.map_cons, List.mem_cons] at h; exact (h.resolve_right hr).symm
      rw [puts_not r hr, puts_not r hr, Store.get_put, Store.get_put, if_pos this, if_pos this]

theorem puts_comm {a b : List (Key × Obj)} (h : ∀ k, k ∈ a.map (·.1) → k ∉ b.map (·.1)) (s : Store) (k : Key) : ((s.puts a).puts b).get k = ((s.puts b).puts a).get k := by
  by_cases ha : k ∈ a.map (·.1)
  · rw [puts_not b (h k ha), puts_in a ha]
  · rw [puts_not a ha]
    exact puts_same b (puts_not a ha)

structure Item where
  idx : Nat
  op : AOper
  an : Ans
  rd : List Key

def Item.wr (x : Item) : List Key := x.an.up.map (·.1)

def Item.fits (x y : Item) : Prop := x.op.apart y.op = true ∧ compat (x.rd, x.wr) (y.rd, y.wr) = true

def Chain (C : FuncId → Option Contract) : St → List Item → St → Prop
  | s, [], t => s.eqv t
  | s, x :: r, t => eff C s x.op = some (x.an, x.rd) ∧ Chain C (s.go x.op x.an) r t

theorem go_eqv {s s' : St} (h : s.eqv s') (o : AOper) (an : Ans) : (s.go o an).eqv (s'.go o an) := by
  refine ⟨fun t => ?_, fun k => puts_same _ (h.2 k)⟩
  simp only [St.go, AOper.put]
  cases o.dst with
  | none => exact h.1 t
  | some d => simp only [Tm.at_cons]; rw [h.1 t]

theorem eff_eqv {s s' : St} (h : s.eqv s') {o : AOper} {p : Ans × List Key} (he : eff C s o = some p) : eff C s' o = some p :=
  eff_agree he (fun t _ => h.1 t) fun k _ => h.2 k

theorem Chain.eqv : ∀ {L : List Item} {s s' t : St}, Chain C s L t → s.eqv s' → Chain C s' L t
  | [], _, _, _, h, he => St.eqv_trans (St.eqv_symm he) h
  | x :: r, _, _, _, h, he => ⟨eff_eqv he h.1, Chain.eqv h.2 (go_eqv he _ _)⟩

theorem apartKeys_spec {a b : List Key} (h : apartKeys a b = true) : ∀ k ∈ a, k ∉ b := fun k hk => by
  have := List.all_eq_true.1 h k hk
  simpa using this

theorem at_put {o : AOper} {tm : Tm} {v : V} {t : Nat} (h : ∀ d, o.dst = some d → t ≠ d) : (o.put tm v).at t = tm.at t := by
  unfold AOper.put
  cases hd : o.dst with
  | none => rfl
  | some d => simp only [Tm.at_cons]; rw [if_neg fun he => h d hd he.symm]

theorem swap {s : St} {x y : Item} (hf : x.fits y) (hx : eff C s x.op = some (x.an, x.rd)) (hy : eff C (s.go x.op x.an) y.op = some (y.an, y.rd)) :
    eff C s y.op = some (y.an, y.rd) ∧ eff C (s.go y.op y.an) x.op = some (x.an, x.rd) ∧ ((s.go x.op x.an).go y.op y.an).eqv ((s.go y.op y.an).go x.op x.an) := by
  obtain ⟨h1, h2, h3⟩ := AOper.apart_spec hf.1
  have hc := hf.2
  simp only [compat, Bool.and_eq_true] at hc
  obtain ⟨⟨c1, c2⟩, c3⟩ := hc
  have c1 := apartKeys_spec c1
  have c2 := apartKeys_spec c2
  have c3 := apartKeys_spec c3
  refine ⟨?_, ?_, ?_, ?_⟩
  · refine eff_agree hy (fun t ht => at_put fun d hd he => h1 d hd (he ▸ ht)) fun k hk => ?_
    exact puts_not _ fun hm => c1 k hm hk
  · refine eff_agree hx (fun t ht => (at_put fun d hd he => h3 d hd (he ▸ ht)).symm) fun k hk => ?_
    exact (puts_not _ fun hm => c3 k hm hk).symm
  · intro t
    simp only [St.go, AOper.put]
    cases hxd : x.op.dst with
    | none => rfl
    | some d =>
      cases hyd : y.op.dst with
      | none => rfl
      | some e =>
        have : d ≠ e := fun he => h2 d hxd (by rw [hyd, he])
        simp only [Tm.at_cons]
        by_cases h1 : e = t
        · rw [if_pos h1, if_neg (fun h => this (h.trans h1.symm)), if_pos h1]
        · rw [if_neg h1, if_neg h1]
  · intro k
    exact puts_comm (fun k hk => c2 k hk) _ k

theorem Chain.pull {x : Item} {B : List Item} {t : St} : ∀ {A : List Item} {s : St}, Chain C s (A ++ x :: B) t → (∀ a ∈ A, a.fits x) → eff C s x.op = some (x.an, x.rd) ∧ Chain C (s.go x.op x.an) (A ++ B) t
  | [], _, h, _ => h
  | a :: A, s, h, hf => by
    obtain ⟨h1, h2⟩ := h
    obtain ⟨h3, h4⟩ := Chain.pull h2 fun b hb => hf b (by simp [hb])
    obtain ⟨e1, e2, e3⟩ := swap (hf a (by simp)) h1 h3
    exact ⟨e1, e2, h4.eqv e3⟩

theorem chain_of_log : ∀ {ops : List AOper} {s t : St} {l logs : List (List Key × List Key)} (k : Nat), runLog C s ops l = some (t, logs) →
    ∃ L : List Item, L.map (·.op) = ops ∧ L.map (·.idx) = List.range' k L.length ∧ logs = l.reverse ++ L.map (fun x => (x.rd, x.wr)) ∧ Chain C s L t
  | [], s, t, l, logs, k, h => by
    simp only [runLog] at h
    cases h
    exact ⟨[], rfl, rfl, by simp, St.eqv_refl _⟩
  | o :: r, s, t, l, logs, k, h => by
    simp only [runLog] at h
    split at h
    · rename_i s' rd wr hs
      rw [step_eff] at hs
      simp only [Option.map_eq_some_iff] at hs
      obtain ⟨⟨an, rd'⟩, he, hq⟩ := hs
      cases hq
      obtain ⟨L, h1, h2, h3, h4⟩ := chain_of_log (k + 1) h
      exact ⟨⟨k, o, an, rd'⟩ :: L, by simp [h1], by simp [h2, List.range'_succ], by simp [h3, Item.wr], he, h4⟩
    · cases h

theorem Chain.last : ∀ {L : List Item} {s t : St}, Chain C s L t → ∀ {t'}, t.eqv t' → Chain C s L t'
  | [], _, _, h, _, he => St.eqv_trans h he
  | _ :: _, _, _, h, _, he => ⟨h.1, Chain.last h.2 he⟩

end
end Go.Ev
