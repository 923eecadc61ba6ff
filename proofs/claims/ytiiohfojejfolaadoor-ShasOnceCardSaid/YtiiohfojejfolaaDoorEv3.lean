/-
  What holds of a store in memory, and what a stretch of a run leaves alone.
-/
import Derived.Test.YtiiohfojejfolaaDoorEv2
import Derived.Laws.Sem
set_option linter.unusedVariables false
set_option linter.unusedSimpArgs false
namespace Go.Ev
open Go

def Hd.disj : Hd → Hd → Prop
  | .blk b, .blk b' => b ≠ b'
  | .blk b, .spare b' _ r _ _ => r = 0 ∨ b ≠ b'
  | .spare b _ r _ _, .blk b' => r = 0 ∨ b ≠ b'
  | .spare b _ r _ _, .spare b' _ r' _ _ => r = 0 ∨ r' = 0 ∨ b ≠ b'

theorem Hd.disj_symm {h h' : Hd} (d : h.disj h') : h'.disj h := by
  cases h <;> cases h' <;> simp only [Hd.disj] at * <;> omega

def mapRel (F : Frz) (μ : Mu) : List (V × V) → List MapEntry → Prop
  | [], es => es = []
  | (k, v) :: r, es => ∃ e es', es = e :: es' ∧ rel F noMu k e.key ∧ rel F μ v e.val ∧ mapRel F μ r es'

def objRel (F : Frz) (μ : Mu) (w : World) : Obj → Hd → Prop
  | .cells cs, .blk b => ∃ (us : List Value) (ty : TypeId), w.heap[b]? = some (.cells us.toArray ty (0, 0)) ∧ rels F μ cs us ∧ ∀ off, F ⟨b, off, none⟩ = none
  | .map es, .blk b => ∃ (ents : Array MapEntry) (clock : Nat), w.heap[b]? = some (.map ents clock) ∧ mapRel F μ es ents.toList
  | .tok n, .spare b pos r e n' => n' = n ∧ (r = 0 ∨ 0 < e ∧ ∃ (us : List Value) (ty : TypeId), w.heap[b]? = some (.cells us.toArray ty (0, 0)) ∧ pos + r * e ≤ us.length ∧
      ∀ off, pos ≤ off → off < pos + r * e → F ⟨b, off, none⟩ = none)
  | _, _ => False

structure Inv (F : Frz) (μ : Mu) (σ : Store) (w : World) : Prop where
  frozen : ∀ a u, F a = some u → a.spot = none ∧ w.cell? a = some u ∧ u.oneCell' = true
  dom1 : ∀ k o, σ.get k = some o → ∃ h, μ k = some h ∧ objRel F μ w o h
  dom2 : ∀ k h, μ k = some h → ∃ o, σ.get k = some o
  apart : ∀ k k' h h', k ≠ k' → μ k = some h → μ k' = some h' → h.disj h'

def InFoot (μ : Mu) (a : Addr) : Prop :=
  (∃ k, μ k = some (.blk a.block)) ∨ ∃ k p r e n, μ k = some (.spare a.block p r e n) ∧ p ≤ a.off ∧ a.off < p + r * e

/-- A block outside of what is written: as it was, but for spare places. -/
def Kept (μ : Mu) (b : Nat) (w w' : World) : Prop :=
  (∃ k, μ k = some (.blk b)) ∨ w'.heap[b]? = w.heap[b]? ∨
  ∃ (us us' : List Value) (ty : TypeId), w.heap[b]? = some (.cells us.toArray ty (0, 0)) ∧
    w'.heap[b]? = some (.cells us'.toArray ty (0, 0)) ∧ us'.length = us.length ∧ ∀ off, ¬ InFoot μ ⟨b, off, none⟩ → us'[off]? = us[off]?

def Born (μ : Mu) (w : World) : Hd → Prop
  | .blk b => w.heap.size ≤ b ∨ ∃ k, μ k = some (.blk b)
  | .spare b p r e _ => r * e = 0 ∨ w.heap.size ≤ b ∨ ∃ k p0 r0 e0 n0, μ k = some (.spare b p0 r0 e0 n0) ∧ p0 ≤ p ∧ p + r * e ≤ p0 + r0 * e0

structure Ext (μ : Mu) (F : Frz) (w : World) (μ' : Mu) (F' : Frz) (w' : World) : Prop where
  le : F.le F'
  size : w.heap.size ≤ w'.heap.size
  keep : ∀ b, b < w.heap.size → Kept μ b w w'
  os : w'.os = w.os
  out : w'.output = w.output
  fresh : ∀ a u, F' a = some u → F a = some u ∨ w.heap.size ≤ a.block ∨ InFoot μ a
  hd : ∀ k h, μ' k = some h → Born μ w h

theorem Ext.refl (μ : Mu) (F : Frz) (w : World) : Ext μ F w μ F w where
  le := F.le_refl
  size := Nat.le_refl _
  keep := fun _ _ => .inr (.inl rfl)
  os := rfl
  out := rfl
  fresh := fun _ _ h => .inl h
  hd := fun k h hk => by
    cases h with
    | blk b => exact .inr ⟨k, hk⟩
    | spare b p r e n => exact .inr (.inr ⟨k, p, r, e, n, hk, Nat.le_refl _, Nat.le_refl _⟩)

theorem Ext.foot {μ μ' : Mu} {F F' : Frz} {w w' : World} (x : Ext μ F w μ' F' w') {a : Addr} (h : InFoot μ' a) (hb : a.block < w.heap.size) : InFoot μ a := by
  rcases h with ⟨k, hk⟩ | ⟨k, p, r, e, n, hk, h1, h2⟩
  · rcases x.hd k _ hk with h | h
    · omega
    · exact .inl h
  · rcases x.hd k _ hk with h | h | ⟨k0, p0, r0, e0, n0, hk0, hp, hr⟩
    · omega
    · omega
    · exact .inr ⟨k0, p0, r0, e0, n0, hk0, by omega, by omega⟩

theorem Ext.trans {μ μ' μ'' : Mu} {F F' F'' : Frz} {w w' w'' : World} (x : Ext μ F w μ' F' w') (y : Ext μ' F' w' μ'' F'' w'') : Ext μ F w μ'' F'' w'' where
  le := Frz.le_trans x.le y.le
  size := Nat.le_trans x.size y.size
  keep := fun b hb => by
    have hb' := Nat.lt_of_lt_of_le hb x.size
    have h1 := x.keep b hb
    rcases h1 with h | h1
    · exact .inl h
    rcases y.keep b hb' with ⟨k, hk⟩ | he | ⟨us, us', ty, hw, hw', hl, ho⟩
    · rcases x.hd k _ hk with h | h
      · omega
      · exact .inl h
    · rcases h1 with h | ⟨us, us', ty, hw, hw', hl, ho⟩
      · exact .inr (.inl (he.trans h))
      · exact .inr (.inr ⟨us, us', ty, hw, he.trans hw', hl, ho⟩)
    · have ho' : ∀ off, ¬ InFoot μ ⟨b, off, none⟩ → us'[off]? = us[off]? := fun off hoff => ho off fun hf => hoff (x.foot hf hb)
      rcases h1 with h | ⟨us1, us1', ty1, hw1, hw1', hl1, ho1⟩
      · exact .inr (.inr ⟨us, us', ty, h ▸ hw, hw', hl, ho'⟩)
      · rw [hw1'] at hw
        injection hw with hw
        injection hw with e1' e2' _
        have hus : us1' = us := by simpa using e1'
        subst hus e2'
        exact .inr (.inr ⟨us1, us', ty1, hw1, hw', hl.trans hl1, fun off hoff => (ho' off hoff).trans (ho1 off hoff)⟩)
  os := y.os.trans x.os
  out := y.out.trans x.out
  fresh := fun a u h => by
    rcases y.fresh a u h with h | h | h
    · exact x.fresh a u h
    · exact .inr (.inl (Nat.le_trans x.size h))
    · rcases Nat.lt_or_ge a.block w.heap.size with hb | hb
      · exact .inr (.inr (x.foot h hb))
      · exact .inr (.inl hb)
  hd := fun k h hk => by
    have hy := y.hd k h hk
    cases h with
    | blk b =>
      rcases hy with h | ⟨k', h⟩
      · exact .inl (Nat.le_trans x.size h)
      · exact x.hd k' _ h
    | spare b p r e n =>
      rcases hy with h | h | ⟨k0, p0, r0, e0, n0, hk0, hp, hr⟩
      · exact .inl h
      · exact .inr (.inl (Nat.le_trans x.size h))
      · rcases x.hd k0 _ hk0 with h | h | ⟨k1, p1, r1, e1, n1, hk1, hp1, hr1⟩
        · exact .inl (by omega)
        · exact .inr (.inl h)
        · exact .inr (.inr ⟨k1, p1, r1, e1, n1, hk1, by omega, by omega⟩)

/-! ### the store as a list -/
theorem Store.get_put (s : Store) (k k' : Key) (o : Obj) : (s.put k o).get k' = if k = k' then some o else s.get k' := by
  induction s with
  | nil => simp [Store.put, Store.get]
  | cons p r ih =>
    obtain ⟨k1, o1⟩ := p
    simp only [Store.put]
    split
    · rename_i h
      subst h
      simp only [Store.get]
      split <;> rfl
    · rename_i h
      simp only [Store.get, ih]
      by_cases h1 : k1 = k'
      · subst h1
        rw [if_pos rfl, if_neg (fun h' => h h'.symm), if_pos rfl]
      · rw [if_neg h1, if_neg h1]

theorem mapRel_mono {F F' : Frz} (hF : F.le F') {μ μ' : Mu} (hm : μ.le μ') : ∀ {es : List (V × V)} {l : List MapEntry}, mapRel F μ es l → mapRel F' μ' es l
  | [], _, h => h
  | (k, v) :: r, _, h => by
    obtain ⟨e, es', hl, h1, h2, hr⟩ := h
    exact ⟨e, es', hl, rel_mono hF (Mu.le_refl _) _ _ h1, rel_mono hF hm _ _ h2, mapRel_mono hF hm hr⟩

/-- What an object is, where its block is as it was and its cells are no part of what stays. -/
theorem objRel_mono {F F' : Frz} (hF : F.le F') {μ μ' : Mu} (hm : μ.le μ') {w w' : World} {o : Obj} {h : Hd} (hr : objRel F μ w o h)
    (hb : ∀ b, (h = .blk b ∨ ∃ p r e n, h = .spare b p r e n ∧ r ≠ 0) → w'.heap[b]? = w.heap[b]?)
    (hf : ∀ b off u, (h = .blk b ∨ ∃ p r e n, h = .spare b p r e n ∧ p ≤ off ∧ off < p + r * e) → F' ⟨b, off, none⟩ = some u → F ⟨b, off, none⟩ = some u) : objRel F' μ' w' o h := by
  cases o with
  | cells cs =>
    cases h with
    | blk b =>
      obtain ⟨us, ty, hw, hc, hn⟩ := hr
      refine ⟨us, ty, (hb b (.inl rfl)).trans hw, rels_mono hF hm _ _ hc, fun off => ?_⟩
      cases hq : F' ⟨b, off, none⟩ with
      | none => rfl
      | some u => have := hf b off u (.inl rfl) hq; rw [hn] at this; cases this
    | spare => exact hr.elim
  | map es =>
    cases h with
    | blk b =>
      obtain ⟨ents, clock, hw, hc⟩ := hr
      exact ⟨ents, clock, (hb b (.inl rfl)).trans hw, mapRel_mono hF hm hc⟩
    | spare => exact hr.elim
  | tok n =>
    cases h with
    | blk b => exact hr.elim
    | spare b p r e n' =>
      refine ⟨hr.1, ?_⟩
      by_cases h0 : r = 0
      · exact .inl h0
      rcases hr.2 with h | ⟨he, us, ty, hw, hl, hn⟩
      · exact .inl h
      · refine .inr ⟨he, us, ty, (hb b (.inr ⟨p, r, e, n', rfl, h0⟩)).trans hw, hl, fun off h1 h2 => ?_⟩
        cases hq : F' ⟨b, off, none⟩ with
        | none => rfl
        | some u => have := hf b off u (.inr ⟨p, r, e, n', rfl, h1, h2⟩) hq; rw [hn off h1 h2] at this; cases this

theorem objRel_lt {F : Frz} {μ : Mu} {w : World} {o : Obj} {h : Hd} (hr : objRel F μ w o h) (b : Nat) (hb : h = .blk b ∨ ∃ p r e n, h = .spare b p r e n ∧ r ≠ 0) : b < w.heap.size := by
  have lt {b : Nat} {o : Go.Obj} (h : w.heap[b]? = some o) : b < w.heap.size := by
    rcases Nat.lt_or_ge b w.heap.size with h' | h'
    · exact h'
    · rw [Array.getElem?_eq_none h'] at h; cases h
  cases o with
  | cells cs =>
    cases h with
    | blk b' => obtain ⟨us, ty, hw, _⟩ := hr; rcases hb with h | ⟨_, _, _, _, h, _⟩ <;> cases h; exact lt hw
    | spare => exact hr.elim
  | map es =>
    cases h with
    | blk b' => obtain ⟨us, ty, hw, _⟩ := hr; rcases hb with h | ⟨_, _, _, _, h, _⟩ <;> cases h; exact lt hw
    | spare => exact hr.elim
  | tok n =>
    cases h with
    | blk b => exact hr.elim
    | spare b' p r e n' =>
      rcases hb with h | ⟨_, _, _, _, h, h0⟩ <;> cases h
      rcases hr.2 with h | ⟨_, us, ty, hw, _⟩
      · exact absurd h h0
      · exact lt hw

/-- The heap only grows, and nothing more is held to stay but in new blocks. -/
theorem Inv.grow {F F' : Frz} {μ : Mu} {σ : Store} {w w' : World} (h : Inv F μ σ w) (hF : F.le F')
    (hw : ∀ b, b < w.heap.size → w'.heap[b]? = w.heap[b]?) (hf : ∀ a u, F' a = some u → F a = some u ∨ (w.heap.size ≤ a.block ∧ a.spot = none ∧ w'.cell? a = some u ∧ u.oneCell' = true)) : Inv F' μ σ w' where
  frozen := fun a u ha => by
    rcases hf a u ha with h' | h'
    · obtain ⟨h1, h2, h3⟩ := h.frozen a u h'
      refine ⟨h1, ?_, h3⟩
      have hlt : a.block < w.heap.size := by
        rcases Nat.lt_or_ge a.block w.heap.size with hl | hl
        · exact hl
        · simp [World.cell?, Array.getElem?_eq_none hl] at h2
      rw [← h2]
      simp only [World.cell?, hw a.block hlt]
    · exact h'.2
  dom1 := fun k o hk => by
    obtain ⟨hd, h1, h2⟩ := h.dom1 k o hk
    refine ⟨hd, h1, objRel_mono hF (Mu.le_refl _) h2 (fun b hb => hw b (objRel_lt h2 b hb)) (fun b off u hb hq => ?_)⟩
    rcases hf _ _ hq with h' | ⟨h', _⟩
    · exact h'
    · have := objRel_lt h2 b (by
        rcases hb with hb | ⟨p, r, e, n, hb, h3, h4⟩
        · exact .inl hb
        · exact .inr ⟨p, r, e, n, hb, fun h0 => by subst h0; omega⟩)
      simp at h'
      omega
  dom2 := h.dom2
  apart := h.apart

theorem Ext.grow {F F' : Frz} {μ : Mu} {w w' : World} (hF : F.le F') (hs : w.heap.size ≤ w'.heap.size)
    (hw : ∀ b, b < w.heap.size → w'.heap[b]? = w.heap[b]?) (hf : ∀ a u, F' a = some u → F a = some u ∨ w.heap.size ≤ a.block) (ho : w'.os = w.os) (ho' : w'.output = w.output) : Ext μ F w μ F' w' where
  le := hF
  size := hs
  keep := fun b hb => .inr (.inl (hw b hb))
  os := ho
  out := ho'
  fresh := fun a u h => (hf a u h).imp id .inl
  hd := (Ext.refl μ F w).hd

end Go.Ev
