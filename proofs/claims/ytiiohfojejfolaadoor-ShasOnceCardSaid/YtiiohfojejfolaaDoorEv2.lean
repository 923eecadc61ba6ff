/-
  How a plain value stands in memory, and what the objects of a store are there.
-/
import Derived.Test.YtiiohfojejfolaaDoorEv1
set_option linter.unusedVariables false
set_option linter.unusedSimpArgs false
namespace Go.Ev
open Go

/-- Where an object lies: a block; or the spare places of a block: from 'pos' on, r elements of e cells; n elements lie ahead. -/
inductive Hd where
  | blk (b : Nat)
  | spare (b pos r e n : Nat)

/-- Memory that stays as it is. -/
abbrev Frz := Addr → Option Value
abbrev Mu := Key → Option Hd
def noMu : Mu := fun _ => none

def ownRel (μ : Mu) (base : Option Addr) (cap e len : Nat) : Own → Prop
  | .none => len ≤ cap
  | .nn => len ≤ cap ∧ base.isSome = true
  | .tight => cap = len
  | .tok k s => len ≤ cap ∧ ∃ b pos r e' n, μ k = some (.spare b pos r e' n) ∧ s + len ≤ n ∧
      (s + len = n → cap = len + r ∧ (r = 0 ∨ (e' = e ∧ ∃ o, base = some ⟨b, o, none⟩ ∧ o + len * e = pos)))

mutual
def rel (F : Frz) : Mu → V → Value → Prop
  | _, .undef, _ => True
  | _, .bool b, v => v = .bool b
  | _, .int k n, v => v = .int k n
  | _, .str s, v => v = .string s
  | _, .nil, v => v = .pointer none
  | μ, .ptr k off, v => ∃ b, μ k = some (.blk b) ∧ v = .pointer (some ⟨b, off, none⟩)
  | _, .elem cs, v => ∃ b o, v = .pointer (some ⟨b, o, none⟩) ∧ frz F b o cs
  | μ, .slc e xs own, v => ∃ base cap, v = .slice base xs.length cap ∧
      (match base with | none => xs = [] ∧ cap = 0 | some a => (xs = [] ∨ a.spot = none) ∧ frzE F a.block a.off e xs) ∧ ownRel μ base cap e xs.length own
  | _, .nilslc, v => v = .slice none 0 0
  | μ, .view k _ off len cap, v => ∃ b, μ k = some (.blk b) ∧ v = .slice (some ⟨b, off, none⟩) len cap
  | μ, .map k, v => ∃ b, μ k = some (.blk b) ∧ v = .map (some b)
  | _, .nilmap, v => v = .map none
  | μ, .func fn f c, v => ∃ f' c' : List Value, v = .func fn f'.toArray c'.toArray ∧ rels F μ f f' ∧ rels F μ c c'
  | _, .nilfunc, v => v = .nilFunc
  | μ, .iface t x, v => ∃ u, v = .iface t u ∧ rel F μ x u
  | _, .nilIface, v => v = .nilIface
  | μ, .agg cs, v => ∃ us : List Value, v = .agg us.toArray ∧ rels F μ cs us
  | μ, .tuple vs, v => ∃ us : List Value, v = .tuple us.toArray ∧ rels F μ vs us
def rels (F : Frz) : Mu → List V → List Value → Prop
  | _, [], us => us = []
  | μ, v :: r, us => ∃ u us', us = u :: us' ∧ rel F μ v u ∧ rels F μ r us'
/-- The cells from there on. -/
def frz (F : Frz) : Nat → Nat → List V → Prop
  | _, _, [] => True
  | b, o, c :: r => (∃ u, F ⟨b, o, none⟩ = some u ∧ rel F noMu c u) ∧ frz F b (o + 1) r
/-- The elements from there on. -/
def frzE (F : Frz) : Nat → Nat → Nat → List V → Prop
  | _, _, _, [] => True
  | b, o, e, .agg cs :: r => (cs.length = e ∧ frz F b o cs) ∧ frzE F b (o + e) e r
  | b, o, e, x :: r => (e = 1 ∧ ∃ u, F ⟨b, o, none⟩ = some u ∧ rel F noMu x u) ∧ frzE F b (o + e) e r
end

/-- Later knowledge: the same blocks; spare places that were used are others. -/
def Hd.le : Hd → Hd → Prop
  | .blk b, h => h = .blk b
  | .spare b p r e n, h => h = .spare b p r e n ∨ ∃ b' p' r' e' n', h = .spare b' p' r' e' n' ∧ n < n'

def Mu.le (μ μ' : Mu) : Prop := ∀ k h, μ k = some h → ∃ h', μ' k = some h' ∧ h.le h'
def Frz.le (F F' : Frz) : Prop := ∀ a u, F a = some u → F' a = some u

theorem Hd.le_refl (h : Hd) : h.le h := by cases h <;> simp [Hd.le]
theorem Hd.le_trans {a b c : Hd} (h : a.le b) (h' : b.le c) : a.le c := by
  cases a with
  | blk x => simp only [Hd.le] at h; subst h; exact h'
  | spare x p r e n =>
    simp only [Hd.le] at h ⊢
    rcases h with rfl | ⟨b', p', r', e', n', rfl, hn⟩
    · exact h'
    · simp only [Hd.le] at h'
      rcases h' with rfl | ⟨b'', p'', r'', e'', n'', rfl, hn'⟩
      · exact .inr ⟨_, _, _, _, _, rfl, hn⟩
      · exact .inr ⟨_, _, _, _, _, rfl, Nat.lt_trans hn hn'⟩
theorem Mu.le_refl (μ : Mu) : μ.le μ := fun _ h hk => ⟨h, hk, h.le_refl⟩
theorem Mu.le_trans {a b c : Mu} (h : a.le b) (h' : b.le c) : a.le c := fun k x hx =>
  let ⟨y, hy, l⟩ := h k x hx
  let ⟨z, hz, l'⟩ := h' k y hy
  ⟨z, hz, Hd.le_trans l l'⟩
theorem Frz.le_refl (F : Frz) : F.le F := fun _ _ h => h
theorem Frz.le_trans {a b c : Frz} (h : a.le b) (h' : b.le c) : a.le c := fun x u hx => h' x u (h x u hx)
theorem noMu_le (μ : Mu) : noMu.le μ := fun _ _ h => by simp [noMu] at h

theorem ownRel_mono {μ μ' : Mu} (hm : μ.le μ') {base : Option Addr} {cap e len : Nat} {own : Own} (h : ownRel μ base cap e len own) : ownRel μ' base cap e len own := by
  cases own with
  | none => exact h
  | nn => exact h
  | tight => exact h
  | tok k s =>
    obtain ⟨hc, b, pos, r, e', n, hk, hs, hq⟩ := h
    obtain ⟨h', hk', hl⟩ := hm k _ hk
    simp only [Hd.le] at hl
    rcases hl with rfl | ⟨b', p', r', e'', n', rfl, hn⟩
    · exact ⟨hc, _, _, _, _, _, hk', hs, hq⟩
    · exact ⟨hc, _, _, _, _, _, hk', by omega, fun h => by omega⟩

mutual
theorem rel_mono {F F' : Frz} (hF : F.le F') : ∀ {μ μ' : Mu}, μ.le μ' → ∀ (v : V) (u : Value), rel F μ v u → rel F' μ' v u
  | _, _, _, .undef, _, _ => by simp [rel]
  | _, _, _, .bool _, _, h => by simpa [rel] using h
  | _, _, _, .int .., _, h => by simpa [rel] using h
  | _, _, _, .str _, _, h => by simpa [rel] using h
  | _, _, _, .nil, _, h => by simpa [rel] using h
  | μ, μ', hm, .ptr k off, u, h => by
    simp only [rel] at h ⊢
    obtain ⟨b, hk, hu⟩ := h
    obtain ⟨h', hk', hl⟩ := hm k _ hk
    simp only [Hd.le] at hl
    exact ⟨b, hl ▸ hk', hu⟩
  | _, _, _, .elem cs, u, h => by
    simp only [rel] at h ⊢
    obtain ⟨b, o, hu, hc⟩ := h
    exact ⟨b, o, hu, frz_mono hF _ _ cs hc⟩
  | μ, μ', hm, .slc e xs own, u, h => by
    simp only [rel] at h ⊢
    obtain ⟨base, cap, hu, hb, ho⟩ := h
    refine ⟨base, cap, hu, ?_, ownRel_mono hm ho⟩
    cases base with
    | none => exact hb
    | some a => exact ⟨hb.1, frzE_mono hF _ _ _ xs hb.2⟩
  | _, _, _, .nilslc, _, h => by simpa [rel] using h
  | μ, μ', hm, .view k e off len cap, u, h => by
    simp only [rel] at h ⊢
    obtain ⟨b, hk, hu⟩ := h
    obtain ⟨h', hk', hl⟩ := hm k _ hk
    simp only [Hd.le] at hl
    exact ⟨b, hl ▸ hk', hu⟩
  | μ, μ', hm, .map k, u, h => by
    simp only [rel] at h ⊢
    obtain ⟨b, hk, hu⟩ := h
    obtain ⟨h', hk', hl⟩ := hm k _ hk
    simp only [Hd.le] at hl
    exact ⟨b, hl ▸ hk', hu⟩
  | _, _, _, .nilmap, _, h => by simpa [rel] using h
  | μ, μ', hm, .func fn f c, u, h => by
    simp only [rel] at h ⊢
    obtain ⟨f', c', hu, hf, hc⟩ := h
    exact ⟨f', c', hu, rels_mono hF hm f _ hf, rels_mono hF hm c _ hc⟩
  | _, _, _, .nilfunc, _, h => by simpa [rel] using h
  | μ, μ', hm, .iface t x, u, h => by
    simp only [rel] at h ⊢
    obtain ⟨u', hu, hx⟩ := h
    exact ⟨u', hu, rel_mono hF hm x _ hx⟩
  | _, _, _, .nilIface, _, h => by simpa [rel] using h
  | μ, μ', hm, .agg cs, u, h => by
    simp only [rel] at h ⊢
    obtain ⟨us, hu, hc⟩ := h
    exact ⟨us, hu, rels_mono hF hm cs _ hc⟩
  | μ, μ', hm, .tuple vs, u, h => by
    simp only [rel] at h ⊢
    obtain ⟨us, hu, hc⟩ := h
    exact ⟨us, hu, rels_mono hF hm vs _ hc⟩
theorem rels_mono {F F' : Frz} (hF : F.le F') : ∀ {μ μ' : Mu}, μ.le μ' → ∀ (vs : List V) (us : List Value), rels F μ vs us → rels F' μ' vs us
  | _, _, _, [], _, h => by simpa [rels] using h
  | μ, μ', hm, v :: r, us, h => by
    simp only [rels] at h ⊢
    obtain ⟨u, us', hu, hv, hr⟩ := h
    exact ⟨u, us', hu, rel_mono hF hm v _ hv, rels_mono hF hm r _ hr⟩
theorem frz_mono {F F' : Frz} (hF : F.le F') : ∀ (b o : Nat) (cs : List V), frz F b o cs → frz F' b o cs
  | _, _, [], _ => by simp [frz]
  | b, o, c :: r, h => by
    simp only [frz] at h ⊢
    obtain ⟨⟨u, hu, hc⟩, hr⟩ := h
    exact ⟨⟨u, hF _ _ hu, rel_mono hF (Mu.le_refl _) c _ hc⟩, frz_mono hF _ _ r hr⟩
theorem frzE_mono {F F' : Frz} (hF : F.le F') : ∀ (b o e : Nat) (xs : List V), frzE F b o e xs → frzE F' b o e xs
  | _, _, _, [], _ => by simp [frzE]
  | b, o, e, .agg cs :: r, h => by
    simp only [frzE] at h ⊢
    exact ⟨⟨h.1.1, frz_mono hF _ _ cs h.1.2⟩, frzE_mono hF _ _ _ r h.2⟩
  | b, o, e, .undef :: r, h => by
    simp only [frzE] at h ⊢
    obtain ⟨⟨he, u, hu, hc⟩, hr⟩ := h
    exact ⟨⟨he, u, hF _ _ hu, rel_mono hF (Mu.le_refl _) _ _ hc⟩, frzE_mono hF _ _ _ r hr⟩
  | b, o, e, .bool x :: r, h => by
    simp only [frzE] at h ⊢
    obtain ⟨⟨he, u, hu, hc⟩, hr⟩ := h
    exact ⟨⟨he, u, hF _ _ hu, rel_mono hF (Mu.le_refl _) _ _ hc⟩, frzE_mono hF _ _ _ r hr⟩
  | b, o, e, .int k n :: r, h => by
    simp only [frzE] at h ⊢
    obtain ⟨⟨he, u, hu, hc⟩, hr⟩ := h
    exact ⟨⟨he, u, hF _ _ hu, rel_mono hF (Mu.le_refl _) _ _ hc⟩, frzE_mono hF _ _ _ r hr⟩
  | b, o, e, .str x :: r, h => by
    simp only [frzE] at h ⊢
    obtain ⟨⟨he, u, hu, hc⟩, hr⟩ := h
    exact ⟨⟨he, u, hF _ _ hu, rel_mono hF (Mu.le_refl _) _ _ hc⟩, frzE_mono hF _ _ _ r hr⟩
  | b, o, e, .nil :: r, h => by
    simp only [frzE] at h ⊢
    obtain ⟨⟨he, u, hu, hc⟩, hr⟩ := h
    exact ⟨⟨he, u, hF _ _ hu, rel_mono hF (Mu.le_refl _) _ _ hc⟩, frzE_mono hF _ _ _ r hr⟩
  | b, o, e, .ptr x y :: r, h => by
    simp only [frzE] at h ⊢
    obtain ⟨⟨he, u, hu, hc⟩, hr⟩ := h
    exact ⟨⟨he, u, hF _ _ hu, rel_mono hF (Mu.le_refl _) _ _ hc⟩, frzE_mono hF _ _ _ r hr⟩
  | b, o, e, .elem x :: r, h => by
    simp only [frzE] at h ⊢
    obtain ⟨⟨he, u, hu, hc⟩, hr⟩ := h
    exact ⟨⟨he, u, hF _ _ hu, rel_mono hF (Mu.le_refl _) _ _ hc⟩, frzE_mono hF _ _ _ r hr⟩
  | b, o, e, .slc x y z :: r, h => by
    simp only [frzE] at h ⊢
    obtain ⟨⟨he, u, hu, hc⟩, hr⟩ := h
    exact ⟨⟨he, u, hF _ _ hu, rel_mono hF (Mu.le_refl _) _ _ hc⟩, frzE_mono hF _ _ _ r hr⟩
  | b, o, e, .nilslc :: r, h => by
    simp only [frzE] at h ⊢
    obtain ⟨⟨he, u, hu, hc⟩, hr⟩ := h
    exact ⟨⟨he, u, hF _ _ hu, rel_mono hF (Mu.le_refl _) _ _ hc⟩, frzE_mono hF _ _ _ r hr⟩
  | b, o, e, .view x y z t s :: r, h => by
    simp only [frzE] at h ⊢
    obtain ⟨⟨he, u, hu, hc⟩, hr⟩ := h
    exact ⟨⟨he, u, hF _ _ hu, rel_mono hF (Mu.le_refl _) _ _ hc⟩, frzE_mono hF _ _ _ r hr⟩
  | b, o, e, .map x :: r, h => by
    simp only [frzE] at h ⊢
    obtain ⟨⟨he, u, hu, hc⟩, hr⟩ := h
    exact ⟨⟨he, u, hF _ _ hu, rel_mono hF (Mu.le_refl _) _ _ hc⟩, frzE_mono hF _ _ _ r hr⟩
  | b, o, e, .nilmap :: r, h => by
    simp only [frzE] at h ⊢
    obtain ⟨⟨he, u, hu, hc⟩, hr⟩ := h
    exact ⟨⟨he, u, hF _ _ hu, rel_mono hF (Mu.le_refl _) _ _ hc⟩, frzE_mono hF _ _ _ r hr⟩
  | b, o, e, .func x y z :: r, h => by
    simp only [frzE] at h ⊢
    obtain ⟨⟨he, u, hu, hc⟩, hr⟩ := h
    exact ⟨⟨he, u, hF _ _ hu, rel_mono hF (Mu.le_refl _) _ _ hc⟩, frzE_mono hF _ _ _ r hr⟩
  | b, o, e, .nilfunc :: r, h => by
    simp only [frzE] at h ⊢
    obtain ⟨⟨he, u, hu, hc⟩, hr⟩ := h
    exact ⟨⟨he, u, hF _ _ hu, rel_mono hF (Mu.le_refl _) _ _ hc⟩, frzE_mono hF _ _ _ r hr⟩
  | b, o, e, .iface x y :: r, h => by
    simp only [frzE] at h ⊢
    obtain ⟨⟨he, u, hu, hc⟩, hr⟩ := h
    exact ⟨⟨he, u, hF _ _ hu, rel_mono hF (Mu.le_refl _) _ _ hc⟩, frzE_mono hF _ _ _ r hr⟩
  | b, o, e, .nilIface :: r, h => by
    simp only [frzE] at h ⊢
    obtain ⟨⟨he, u, hu, hc⟩, hr⟩ := h
    exact ⟨⟨he, u, hF _ _ hu, rel_mono hF (Mu.le_refl _) _ _ hc⟩, frzE_mono hF _ _ _ r hr⟩
  | b, o, e, .tuple x :: r, h => by
    simp only [frzE] at h ⊢
    obtain ⟨⟨he, u, hu, hc⟩, hr⟩ := h
    exact ⟨⟨he, u, hF _ _ hu, rel_mono hF (Mu.le_refl _) _ _ hc⟩, frzE_mono hF _ _ _ r hr⟩
end

theorem frz_iff {F : Frz} : ∀ {b o : Nat} {cs : List V}, frz F b o cs ↔ ∀ i c, cs[i]? = some c → ∃ u, F ⟨b, o + i, none⟩ = some u ∧ rel F noMu c u
  | _, _, [] => by simp [frz]
  | b, o, c :: r => by
    simp only [frz]
    rw [frz_iff]
    constructor
    · rintro ⟨hc, hr⟩ i d hi
      cases i with
      | zero => simp at hi; subst hi; simpa using hc
      | succ i => simp at hi; have := hr i d hi; rwa [Nat.add_assoc, Nat.add_comm 1 i] at this
    · intro h
      refine ⟨by simpa using h 0 c rfl, fun i d hi => ?_⟩
      have := h (i + 1) d (by simpa using hi)
      rwa [← Nat.add_assoc, Nat.add_right_comm] at this

theorem frz_append {F : Frz} {b o : Nat} {cs ds : List V} : frz F b o (cs ++ ds) ↔ frz F b o cs ∧ frz F b (o + cs.length) ds := by
  induction cs generalizing o with
  | nil => simp [frz]
  | cons c r ih =>
    simp only [List.cons_append, frz, ih, List.length_cons]
    rw [Nat.add_assoc, Nat.add_comm 1 r.length, and_assoc]

theorem frz_drop {F : Frz} {b o n : Nat} {cs : List V} (h : frz F b o cs) : frz F b (o + n) (cs.drop n) := by
  rw [frz_iff] at *
  intro i c hi
  have := h (n + i) c (by simpa using hi)
  rwa [← Nat.add_assoc] at this

theorem frz_take {F : Frz} {b o n : Nat} {cs : List V} (h : frz F b o cs) : frz F b o (cs.take n) := by
  rw [frz_iff] at *
  intro i c hi
  rw [List.getElem?_take] at hi
  split at hi
  · exact h i c hi
  · cases hi

theorem frzE_iff {F : Frz} : ∀ {b o e : Nat} {xs : List V}, frzE F b o e xs ↔ (∀ x ∈ xs, x.cellsOf.length = e) ∧ frz F b o (xs.flatMap V.cellsOf)
  | _, _, _, [] => by simp [frzE, frz]
  | b, o, e, x :: r => by
    have key : frzE F b o e (x :: r) ↔ (x.cellsOf.length = e ∧ frz F b o x.cellsOf) ∧ frzE F b (o + e) e r := by
      cases x <;> simp only [frzE, V.cellsOf, frz, List.length_cons, List.length_nil, and_true, eq_comm (a := e)]
    rw [key, frzE_iff]
    simp only [List.flatMap_cons, frz_append, List.mem_cons, forall_eq_or_imp]
    constructor
    · rintro ⟨⟨h1, h2⟩, h3, h4⟩
      exact ⟨⟨h1, h3⟩, h2, by rw [h1]; exact h4⟩
    · rintro ⟨⟨h1, h3⟩, h2, h4⟩
      exact ⟨⟨h1, h2⟩, h3, by rw [h1] at h4; exact h4⟩

theorem flatMap_cells_length {e : Nat} : ∀ {xs : List V}, (∀ x ∈ xs, x.cellsOf.length = e) → (xs.flatMap V.cellsOf).length = xs.length * e
  | [], _ => by simp
  | x :: r, h => by
    rw [List.flatMap_cons, List.length_append, flatMap_cells_length (fun y hy => h y (List.mem_cons_of_mem _ hy)), h x (List.mem_cons_self ..), List.length_cons, Nat.succ_mul, Nat.add_comm]

theorem frzE_append {F : Frz} {b o e : Nat} {xs ys : List V} : frzE F b o e (xs ++ ys) ↔ frzE F b o e xs ∧ frzE F b (o + xs.length * e) e ys := by
  simp only [frzE_iff, List.flatMap_append, frz_append, List.mem_append]
  constructor
  · rintro ⟨h, h1, h2⟩
    have hl := flatMap_cells_length (fun x hx => h x (.inl hx))
    exact ⟨⟨fun x hx => h x (.inl hx), h1⟩, fun x hx => h x (.inr hx), hl ▸ h2⟩
  · rintro ⟨⟨h1, h2⟩, h3, h4⟩
    have hl := flatMap_cells_length h1
    exact ⟨fun x hx => hx.elim (h1 x) (h3 x), h2, by rw [hl]; exact h4⟩

theorem frzE_drop {F : Frz} {b o e n : Nat} {xs : List V} (h : frzE F b o e xs) (hn : n ≤ xs.length) : frzE F b (o + n * e) e (xs.drop n) := by
  have := h
  rw [← List.take_append_drop n xs, frzE_append] at this
  have h2 := this.2
  rwa [List.length_take, Nat.min_eq_left hn] at h2

theorem frzE_take {F : Frz} {b o e n : Nat} {xs : List V} (h : frzE F b o e xs) : frzE F b o e (xs.take n) := by
  rw [← List.take_append_drop n xs, frzE_append] at h
  exact h.1

theorem frzE_get {F : Frz} {b o e i : Nat} {xs : List V} {x : V} (h : frzE F b o e xs) (hx : xs[i]? = some x) : x.cellsOf.length = e ∧ frz F b (o + i * e) x.cellsOf := by
  have hi : i < xs.length := by
    rcases Nat.lt_or_ge i xs.length with h' | h'
    · exact h'
    · rw [List.getElem?_eq_none h'] at hx; cases hx
  have h1 := frzE_drop (n := i) h (Nat.le_of_lt hi)
  have hd : xs.drop i = x :: xs.drop (i + 1) := by
    rw [List.drop_eq_getElem_cons hi]
    rw [List.getElem?_eq_getElem hi] at hx
    cases hx; rfl
  rw [hd, frzE_iff] at h1
  refine ⟨h1.1 x (List.mem_cons_self ..), ?_⟩
  have := h1.2
  rw [List.flatMap_cons, frz_append] at this
  exact this.1

theorem rels_iff {F : Frz} {μ : Mu} : ∀ {vs : List V} {us : List Value}, rels F μ vs us ↔ vs.length = us.length ∧ ∀ (i : Nat) (v : V) (u : Value), vs[i]? = some v → us[i]? = some u → rel F μ v u
  | [], us => by
    simp only [rels]
    constructor
    · rintro rfl; simp
    · rintro ⟨h, _⟩; simpa using h.symm
  | v :: r, us => by
    simp only [rels]
    constructor
    · rintro ⟨u, us', rfl, hv, hr⟩
      rw [rels_iff] at hr
      refine ⟨by simp [hr.1], fun i x y hx hy => ?_⟩
      cases i with
      | zero => simp at hx hy; subst hx hy; exact hv
      | succ i => simp at hx hy; exact hr.2 i x y hx hy
    · rintro ⟨hl, h⟩
      cases us with
      | nil => simp at hl
      | cons u us' =>
        refine ⟨u, us', rfl, h 0 v u rfl rfl, ?_⟩
        rw [rels_iff]
        exact ⟨by simpa using hl, fun i x y hx hy => h (i + 1) x y (by simpa using hx) (by simpa using hy)⟩

theorem rels_length {F : Frz} {μ : Mu} {vs : List V} {us : List Value} (h : rels F μ vs us) : vs.length = us.length := (rels_iff.1 h).1

theorem rels_append {F : Frz} {μ : Mu} {vs vs' : List V} {us us' : List Value} (h : rels F μ vs us) (h' : rels F μ vs' us') : rels F μ (vs ++ vs') (us ++ us') := by
  induction vs generalizing us with
  | nil => simp only [rels] at h; subst h; simpa using h'
  | cons v r ih =>
    simp only [rels] at h
    obtain ⟨u, us'', rfl, hv, hr⟩ := h
    exact ⟨u, us'' ++ us', rfl, hv, ih hr⟩

theorem rels_take {F : Frz} {μ : Mu} {vs : List V} {us : List Value} (n : Nat) (h : rels F μ vs us) : rels F μ (vs.take n) (us.take n) := by
  rw [rels_iff] at *
  refine ⟨by simp [h.1], fun i v u hv hu => ?_⟩
  rw [List.getElem?_take] at hv hu
  split at hv
  · rw [if_pos (by assumption)] at hu; exact h.2 i v u hv hu
  · cases hv

theorem rels_drop {F : Frz} {μ : Mu} {vs : List V} {us : List Value} (n : Nat) (h : rels F μ vs us) : rels F μ (vs.drop n) (us.drop n) := by
  rw [rels_iff] at *
  exact ⟨by simp [h.1], fun i v u hv hu => h.2 (n + i) v u (by simpa using hv) (by simpa using hu)⟩

theorem rels_get {F : Frz} {μ : Mu} {vs : List V} {us : List Value} {i : Nat} {v : V} (h : rels F μ vs us) (hv : vs[i]? = some v) : ∃ u, us[i]? = some u ∧ rel F μ v u := by
  have hl := rels_length h
  have hi : i < us.length := by
    rw [← hl]
    rcases Nat.lt_or_ge i vs.length with h' | h'
    · exact h'
    · rw [List.getElem?_eq_none h'] at hv; cases hv
  exact ⟨us[i], List.getElem?_eq_getElem hi, (rels_iff.1 h).2 i v _ hv (List.getElem?_eq_getElem hi)⟩

theorem rels_set {F : Frz} {μ : Mu} {vs : List V} {us : List Value} {v : V} {u : Value} (i : Nat) (h : rels F μ vs us) (hv : rel F μ v u) : rels F μ (vs.set i v) (us.set i u) := by
  rw [rels_iff] at *
  refine ⟨by simp [h.1], fun j x y hx hy => ?_⟩
  rw [List.getElem?_set] at hx hy
  split at hx
  · rename_i hij
    rw [if_pos hij] at hy
    split at hx
    · rw [if_pos (by rw [← h.1]; assumption)] at hy
      cases hx; cases hy; exact hv
    · cases hx
  · rename_i hij
    rw [if_neg hij] at hy
    exact h.2 j x y hx hy

theorem rel_notAgg {F : Frz} {μ : Mu} {v : V} {u : Value} (h : rel F μ v u) (hv : v ≠ .undef) (hv' : ∀ cs, v ≠ .agg cs) : ∀ c, u ≠ .agg c := by
  cases v <;> first | exact absurd rfl hv | exact absurd rfl (hv' _) | (simp only [rel] at h)
  all_goals
    first
      | (subst h; simp; done)
      | (obtain ⟨b, hk, rfl⟩ := h; simp; done)
      | (obtain ⟨b, o, rfl, hk⟩ := h; simp; done)
      | (obtain ⟨b, rfl, hk⟩ := h; simp; done)

theorem Value.cells_of_notAgg {u : Value} (h : ∀ c, u ≠ .agg c) : u.cells = #[u] := by
  cases u <;> first | rfl | exact absurd rfl (h _)

/-- A value's cells. -/
theorem rel_cells {F : Frz} {μ : Mu} {v : V} {u : Value} (h : rel F μ v u) (hv : v ≠ .undef) : rels F μ v.cellsOf u.cells.toList := by
  by_cases ha : ∃ cs, v = .agg cs
  · obtain ⟨cs, rfl⟩ := ha
    simp only [rel] at h
    obtain ⟨us, rfl, hc⟩ := h
    simpa [Value.cells, V.cellsOf] using hc
  · have hn := rel_notAgg h hv (fun cs hc => ha ⟨cs, hc⟩)
    rw [Value.cells_of_notAgg hn]
    have : v.cellsOf = [v] := by cases v <;> first | rfl | exact absurd ⟨_, rfl⟩ ha
    rw [this]
    exact ⟨u, [], rfl, h, rfl⟩

theorem rel_thin {F : Frz} {μ : Mu} {v : V} {u : Value} (h : rel F μ v u) : rel F μ v.thin u := by
  cases v <;> try exact h
  simp only [V.thin, rel] at h ⊢
  obtain ⟨base, cap, hu, hb, ho⟩ := h
  refine ⟨base, cap, hu, hb, ?_⟩
  rename_i own
  cases own with
  | none => exact ho
  | nn => exact ho.1
  | tight => exact Nat.le_of_eq (Eq.symm ho)
  | tok k s => exact ho.1

mutual
theorem rel_frozen {F : Frz} {μ μ' : Mu} : ∀ (v : V) (u : Value), v.frozen = true → rel F μ v u → rel F μ' v u
  | .undef, _, _, _ => by simp [rel]
  | .bool _, _, _, h => by simpa [rel] using h
  | .int .., _, _, h => by simpa [rel] using h
  | .str _, _, _, h => by simpa [rel] using h
  | .nil, _, _, h => by simpa [rel] using h
  | .ptr .., _, hf, _ => by simp [V.frozen] at hf
  | .elem cs, u, _, h => by simpa only [rel] using h
  | .slc e xs own, u, hf, h => by
    simp only [rel] at h ⊢
    obtain ⟨base, cap, hu, hb, ho⟩ := h
    refine ⟨base, cap, hu, hb, ?_⟩
    cases own with
    | none => exact ho
    | nn => simp [V.frozen] at hf
    | tight => simp [V.frozen] at hf
    | tok k s => simp [V.frozen] at hf
  | .nilslc, _, _, h => by simpa [rel] using h
  | .view .., _, hf, _ => by simp [V.frozen] at hf
  | .map _, _, hf, _ => by simp [V.frozen] at hf
  | .nilmap, _, _, h => by simpa [rel] using h
  | .func fn f c, u, hf, h => by
    simp only [rel, V.frozen, Bool.and_eq_true] at h hf ⊢
    obtain ⟨f', c', hu, h1, h2⟩ := h
    exact ⟨f', c', hu, rels_frozen f _ hf.1 h1, rels_frozen c _ hf.2 h2⟩
  | .nilfunc, _, _, h => by simpa [rel] using h
  | .iface t x, u, hf, h => by
    simp only [rel, V.frozen] at h hf ⊢
    obtain ⟨u', hu, hx⟩ := h
    exact ⟨u', hu, rel_frozen x _ hf hx⟩
  | .nilIface, _, _, h => by simpa [rel] using h
  | .agg cs, u, hf, h => by
    simp only [rel, V.frozen] at h hf ⊢
    obtain ⟨us, hu, hc⟩ := h
    exact ⟨us, hu, rels_frozen cs _ hf hc⟩
  | .tuple vs, u, hf, h => by
    simp only [rel, V.frozen] at h hf ⊢
    obtain ⟨us, hu, hc⟩ := h
    exact ⟨us, hu, rels_frozen vs _ hf hc⟩
theorem rels_frozen {F : Frz} {μ μ' : Mu} : ∀ (vs : List V) (us : List Value), V.frozens vs = true → rels F μ vs us → rels F μ' vs us
  | [], _, _, h => by simpa [rels] using h
  | v :: r, us, hf, h => by
    simp only [rels, V.frozens, Bool.and_eq_true] at h hf ⊢
    obtain ⟨u, us', hu, hv, hr⟩ := h
    exact ⟨u, us', hu, rel_frozen v _ hf.1 hv, rels_frozen r _ hf.2 hr⟩
end

/-- A cell's value is no struct and no tuple. -/
theorem rel_isCell {F : Frz} {μ : Mu} {v : V} {u : Value} (h : rel F μ v u) (hv : v.isCell = true) : (∀ c, u ≠ .agg c) ∧ (∀ c, u ≠ .tuple c) := by
  cases v <;> simp only [V.isCell, Bool.false_eq_true] at hv <;> simp only [rel] at h
  all_goals
    first
      | (subst h; simp; done)
      | (obtain ⟨b, hk, rfl⟩ := h; simp; done)
      | (obtain ⟨b, o, rfl, hk⟩ := h; simp; done)
      | (obtain ⟨b, rfl, hk⟩ := h; simp; done)

end Go.Ev
