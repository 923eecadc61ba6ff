/-
  What new memory, and what is written, does to what holds of a store.
-/
import Derived.Test.YtiiohfojejfolaaDoorEv3
import Derived.Laws.CopyRow
import Derived.Laws.Cells
set_option linter.unusedVariables false
set_option linter.unusedSimpArgs false
namespace Go.Ev
open Go

def Post (F : Frz) (μ : Mu) (w : World) (F' : Frz) (μ' : Mu) (σ' : Store) (w' : World) : Prop :=
  Inv F' μ' σ' w' ∧ Ext μ F w μ' F' w' ∧ μ.le μ'

theorem Post.trans {F F' F'' : Frz} {μ μ' μ'' : Mu} {w w' w'' : World} {σ' σ'' : Store} (h : Post F μ w F' μ' σ' w') (h' : Post F' μ' w' F'' μ'' σ'' w'') : Post F μ w F'' μ'' σ'' w'' :=
  ⟨h'.1, h.2.1.trans h'.2.1, Mu.le_trans h.2.2 h'.2.2⟩

theorem Post.refl {F : Frz} {μ : Mu} {w : World} {σ : Store} (h : Inv F μ σ w) : Post F μ w F μ σ w := ⟨h, Ext.refl .., Mu.le_refl _⟩

def Mu.set (μ : Mu) (k : Key) (h : Hd) : Mu := fun k' => if k' = k then some h else μ k'
theorem Mu.set_same (μ : Mu) (k : Key) (h : Hd) : μ.set k h k = some h := by simp [Mu.set]
theorem Mu.set_other {μ : Mu} {k k' : Key} {h : Hd} (hk : k' ≠ k) : μ.set k h k' = μ k' := by simp [Mu.set, hk]
theorem Mu.le_set {μ : Mu} {k : Key} {h : Hd} (hk : ∀ h', μ k = some h' → h'.le h) : μ.le (μ.set k h) := fun k' h' hh => by
  by_cases he : k' = k
  · subst he; exact ⟨h, Mu.set_same .., hk h' hh⟩
  · exact ⟨h', by rw [Mu.set_other he]; exact hh, Hd.le_refl _⟩

/-- Cells of a block that stay from now on. -/
def Frz.put (F : Frz) (b lo : Nat) (us : List Value) : Frz := fun a =>
  if a.block = b ∧ a.spot = none ∧ lo ≤ a.off ∧ a.off < lo + us.length then us[a.off - lo]? else F a

theorem Frz.put_in {F : Frz} {b lo i : Nat} {us : List Value} (h : i < us.length) : F.put b lo us ⟨b, lo + i, none⟩ = us[i]? := by
  simp only [Frz.put]; rw [if_pos ⟨trivial, trivial, by omega, by omega⟩]; congr 1; omega

theorem Frz.le_put {F : Frz} {b lo : Nat} {us : List Value} (h : ∀ off, lo ≤ off → off < lo + us.length → F ⟨b, off, none⟩ = none) : F.le (F.put b lo us) := fun a u ha => by
  simp only [Frz.put]
  split
  · rename_i hc
    obtain ⟨h1, h2, h3, h4⟩ := hc
    have : a = ⟨b, a.off, none⟩ := by cases a; simp_all
    rw [this, h a.off h3 h4] at ha; cases ha
  · exact ha

theorem Frz.put_cases {F : Frz} {b lo : Nat} {us : List Value} {a : Addr} {u : Value} (h : F.put b lo us a = some u) :
    F a = some u ∨ (a = ⟨b, a.off, none⟩ ∧ lo ≤ a.off ∧ a.off < lo + us.length ∧ us[a.off - lo]? = some u) := by
  simp only [Frz.put] at h
  split at h
  · rename_i hc
    obtain ⟨h1, h2, h3, h4⟩ := hc
    exact .inr ⟨by cases a; simp_all, h3, h4, h⟩
  · exact .inl h

theorem frz_put {F : Frz} {b lo : Nat} {cs : List V} {us : List Value} (hF : F.le (F.put b lo us)) (h : rels F noMu cs us) : frz (F.put b lo us) b lo cs := by
  rw [frz_iff]
  intro i c hi
  obtain ⟨u, hu, hc⟩ := rels_get h hi
  have hl : i < us.length := by
    rcases Nat.lt_or_ge i us.length with h' | h'
    · exact h'
    · rw [List.getElem?_eq_none h'] at hu; cases hu
  exact ⟨u, by rw [Frz.put_in hl, hu], rel_mono hF (Mu.le_refl _) _ _ hc⟩

theorem Inv.frz_lt {F : Frz} {μ : Mu} {σ : Store} {w : World} (h : Inv F μ σ w) {a : Addr} {u : Value} (ha : F a = some u) : a.block < w.heap.size := by
  have := (h.frozen a u ha).2.1
  rcases Nat.lt_or_ge a.block w.heap.size with hl | hl
  · exact hl
  · simp [World.cell?, Array.getElem?_eq_none hl] at this

theorem Inv.mu_none {F : Frz} {μ : Mu} {σ : Store} {w : World} (h : Inv F μ σ w) {k : Key} (hk : σ.get k = none) : μ k = none := by
  cases hm : μ k with
  | none => rfl
  | some x => obtain ⟨o, ho⟩ := h.dom2 k x hm; rw [hk] at ho; cases ho

theorem push_get {w w' : World} {o : Go.Obj} (hh : w'.heap = w.heap.push o) : w'.heap[w.heap.size]? = some o := by rw [hh]; simp
theorem push_lt {w w' : World} {o : Go.Obj} (hh : w'.heap = w.heap.push o) {b : Nat} (hb : b < w.heap.size) : w'.heap[b]? = w.heap[b]? := by
  rw [hh, Array.getElem?_push]; rw [if_neg (by omega)]
theorem push_size {w w' : World} {o : Go.Obj} (hh : w'.heap = w.heap.push o) : w'.heap.size = w.heap.size + 1 := by rw [hh]; simp

/-- One more object, under a new name. -/
theorem Inv.add {F : Frz} {μ : Mu} {σ : Store} {w : World} (hI : Inv F μ σ w) {k : Key} (hk : σ.get k = none) {o : Obj} {h : Hd}
    (ho : objRel F (μ.set k h) w o h) (hd : ∀ k' h', μ k' = some h' → h.disj h') : Inv F (μ.set k h) (σ.put k o) w where
  frozen := hI.frozen
  dom1 := fun k' o' hk' => by
    rw [Store.get_put] at hk'
    split at hk'
    · rename_i he; subst he; cases hk'; exact ⟨h, Mu.set_same .., ho⟩
    · rename_i he
      obtain ⟨h', h1, h2⟩ := hI.dom1 k' o' hk'
      refine ⟨h', by rw [Mu.set_other (Ne.symm he)]; exact h1, objRel_mono F.le_refl (Mu.le_set fun h'' hh => ?_) h2 (fun _ _ => rfl) (fun _ _ _ _ hq => hq)⟩
      rw [hI.mu_none hk] at hh; cases hh
  dom2 := fun k' h' hh => by
    rw [Store.get_put]
    split
    · exact ⟨o, rfl⟩
    · rename_i he
      rw [Mu.set_other (Ne.symm he)] at hh
      exact hI.dom2 k' h' hh
  apart := fun k1 k2 h1 h2 hne e1 e2 => by
    by_cases c1 : k1 = k
    · subst c1
      rw [Mu.set_same] at e1; cases e1
      rw [Mu.set_other (Ne.symm hne)] at e2
      exact hd k2 h2 e2
    · rw [Mu.set_other c1] at e1
      by_cases c2 : k2 = k
      · subst c2
        rw [Mu.set_same] at e2; cases e2
        exact Hd.disj_symm (hd k1 h1 e1)
      · rw [Mu.set_other c2] at e2
        exact hI.apart k1 k2 h1 h2 hne e1 e2

theorem Hd.disj_new {F : Frz} {μ : Mu} {σ : Store} {w : World} (hI : Inv F μ σ w) {h : Hd} (hn : ∀ b, (h = .blk b ∨ ∃ p r e n, h = .spare b p r e n ∧ r ≠ 0) → w.heap.size ≤ b) :
    ∀ k' h', μ k' = some h' → h.disj h' := fun k' h' hk' => by
  obtain ⟨o, ho⟩ := hI.dom2 k' h' hk'
  obtain ⟨h'', h1, h2⟩ := hI.dom1 k' o ho
  rw [hk'] at h1; cases h1
  have hlt := objRel_lt h2
  cases h with
  | blk b =>
    have hb := hn b (.inl rfl)
    cases h' with
    | blk b' => have := hlt b' (.inl rfl); simp only [Hd.disj]; omega
    | spare b' p r e n =>
      simp only [Hd.disj]
      by_cases h0 : r = 0
      · exact .inl h0
      · have := hlt b' (.inr ⟨p, r, e, n, rfl, h0⟩); omega
  | spare b p r e n =>
    by_cases hr : r = 0
    · cases h' <;> simp only [Hd.disj] <;> exact .inl hr
    have hb := hn b (.inr ⟨p, r, e, n, rfl, hr⟩)
    cases h' with
    | blk b' => have := hlt b' (.inl rfl); simp only [Hd.disj]; omega
    | spare b' p' r' e' n' =>
      simp only [Hd.disj]
      by_cases h0 : r' = 0
      · exact .inr (.inl h0)
      · have := hlt b' (.inr ⟨p', r', e', n', rfl, h0⟩); omega

theorem Ext.set {F : Frz} {μ : Mu} {w : World} {k : Key} {h : Hd} (hb : Born μ w h) : Ext μ F w (μ.set k h) F w :=
  { Ext.refl μ F w with
    hd := fun k' h' hk' => by
      by_cases c : k' = k
      · subst c; rw [Mu.set_same] at hk'; cases hk'; exact hb
      · rw [Mu.set_other c] at hk'; exact (Ext.refl μ F w).hd k' h' hk' }

/-- A new block that stays, up to its spare places. -/
theorem Post.newRow {F : Frz} {μ : Mu} {σ : Store} {w w' : World} (hI : Inv F μ σ w) (us rest : List Value) (ty : TypeId) (fr : Nat × Nat) (h1' : ∀ u ∈ us, u.oneCell' = true)
    (hh : w'.heap = w.heap.push (.cells (us ++ rest).toArray ty fr)) (ho : w'.os = w.os) (hq : w'.output = w.output) : Post F μ w (F.put w.heap.size 0 us) μ σ w' := by
  have hF : F.le (F.put w.heap.size 0 us) := Frz.le_put fun off _ _ => by
    cases hc : F ⟨w.heap.size, off, none⟩ with
    | none => rfl
    | some u => have := hI.frz_lt hc; simp at this
  have hlt : ∀ b, b < w.heap.size → w'.heap[b]? = w.heap[b]? := fun b hb => push_lt hh hb
  refine ⟨hI.grow hF hlt fun a u ha => ?_, Ext.grow hF (by rw [push_size hh]; omega) hlt (fun a u ha => ?_) ho hq, Mu.le_refl _⟩
  · rcases Frz.put_cases ha with h | ⟨h1, _, h3, h4⟩
    · exact .inl h
    · refine .inr ⟨by rw [h1]; exact Nat.le_refl _, by rw [h1], ?_, h1' u (List.mem_of_getElem? h4)⟩
      have h5 : (us ++ rest)[a.off]? = some u := by
        rw [List.getElem?_append_left (by omega)]; simpa using h4
      rw [h1]
      simp only [World.cell?, push_get hh]
      simpa using h5
  · rcases Frz.put_cases ha with h | ⟨h1, _⟩
    · exact .inl h
    · exact .inr (by rw [h1]; exact Nat.le_refl _)

/-- A new object of cells. -/
theorem Post.newBlk {F : Frz} {μ : Mu} {σ : Store} {w w' : World} (hI : Inv F μ σ w) {k : Key} (hk : σ.get k = none) {o : Obj} {g : Go.Obj}
    (hh : w'.heap = w.heap.push g) (ho : w'.os = w.os) (hq : w'.output = w.output)
    (hr : ∀ μ', μ.le μ' → objRel F μ' w' o (.blk w.heap.size)) : Post F μ w F (μ.set k (.blk w.heap.size)) (σ.put k o) w' := by
  have hlt : ∀ b, b < w.heap.size → w'.heap[b]? = w.heap[b]? := fun b hb => push_lt hh hb
  have h1 : Inv F μ σ w' := hI.grow F.le_refl hlt (fun a u ha => .inl ha)
  have h2 : Ext μ F w μ F w' := Ext.grow F.le_refl (by rw [push_size hh]; omega) hlt (fun a u ha => .inl ha) ho hq
  have hle : μ.le (μ.set k (.blk w.heap.size)) := Mu.le_set fun h' hh' => by rw [hI.mu_none hk] at hh'; cases hh'
  refine ⟨h1.add hk (hr _ hle) fun k' h' hk' => ?_, ?_, hle⟩
  · exact Hd.disj_new hI (h := .blk w.heap.size) (fun b hb => by rcases hb with hb | ⟨_, _, _, _, hb, _⟩ <;> cases hb; exact Nat.le_refl _) k' h' hk'
  · refine { h2 with hd := fun k' h' hk' => ?_ }
    by_cases c : k' = k
    · subst c; rw [Mu.set_same] at hk'; cases hk'; exact .inl (Nat.le_refl _)
    · rw [Mu.set_other c] at hk'; exact h2.hd k' h' hk'

/-- A new name for spare places in a new block, or for none. -/
theorem Post.newTok {F : Frz} {μ : Mu} {σ : Store} {w : World} (hI : Inv F μ σ w) {k : Key} (hk : σ.get k = none) {h : Hd} {n : Nat}
    (hr : objRel F (μ.set k h) w (.tok n) h) (hd : ∀ k' h', μ k' = some h' → h.disj h') : Inv F (μ.set k h) (σ.put k (.tok n)) w ∧ μ.le (μ.set k h) :=
  ⟨hI.add hk hr hd, Mu.le_set fun h' hh' => by rw [hI.mu_none hk] at hh'; cases hh'⟩

theorem Inv.not_in_blk {F : Frz} {μ : Mu} {σ : Store} {w : World} (hI : Inv F μ σ w) {k : Key} {b : Nat} (hk : μ k = some (.blk b)) {a : Addr} {u : Value} (ha : F a = some u) : a.block ≠ b := by
  intro he
  obtain ⟨o, ho⟩ := hI.dom2 k _ hk
  obtain ⟨h', h1, h2⟩ := hI.dom1 k o ho
  rw [hk] at h1; cases h1
  have hf := hI.frozen a u ha
  cases o with
  | cells cs =>
    obtain ⟨us, ty, hw, _, hn⟩ := h2
    have : a = ⟨b, a.off, none⟩ := by cases a; simp_all
    rw [this, hn] at ha; cases ha
  | map es =>
    obtain ⟨ents, clock, hw, _⟩ := h2
    have := hf.2.1
    simp [World.cell?, he, hw] at this
  | tok n => exact h2.elim

/-- An object is written. -/
theorem Post.setBlk {F : Frz} {μ : Mu} {σ : Store} {w w' : World} (hI : Inv F μ σ w) {k : Key} {b : Nat} (hk : μ k = some (.blk b)) {o : Obj}
    (hs : w'.heap.size = w.heap.size) (hh : ∀ b', b' ≠ b → w'.heap[b']? = w.heap[b']?) (hos : w'.os = w.os) (hq : w'.output = w.output)
    (hr : objRel F μ w' o (.blk b)) : Post F μ w F μ (σ.put k o) w' := by
  refine ⟨⟨fun a u ha => ?_, fun k' o' hk' => ?_, fun k' h' hk' => ?_, hI.apart⟩, ⟨F.le_refl, by omega, fun b' hb' => ?_, hos, hq, fun a u ha => .inl ha, (Ext.refl μ F w).hd⟩, Mu.le_refl _⟩
  · obtain ⟨h1, h2, h3⟩ := hI.frozen a u ha
    refine ⟨h1, ?_, h3⟩
    rw [← h2]
    simp only [World.cell?, hh a.block (hI.not_in_blk hk ha)]
  · rw [Store.get_put] at hk'
    split at hk'
    · rename_i he; subst he; cases hk'; exact ⟨_, hk, hr⟩
    · rename_i he
      obtain ⟨h', h1, h2⟩ := hI.dom1 k' o' hk'
      refine ⟨h', h1, objRel_mono F.le_refl (Mu.le_refl _) h2 (fun b' hb' => hh b' ?_) (fun _ _ _ _ hq => hq)⟩
      have := hI.apart k k' _ h' he hk h1
      rcases hb' with rfl | ⟨p, r, e, n, rfl, h0⟩
      · exact Ne.symm this
      · rcases this with h | h
        · exact absurd h h0
        · exact Ne.symm h
  · rw [Store.get_put]
    split
    · exact ⟨o, rfl⟩
    · exact hI.dom2 k' h' hk'
  · by_cases he : b' = b
    · exact .inl ⟨k, he ▸ hk⟩
    · exact .inr (.inl (hh b' he))

/-- Spare places are used. -/
theorem Post.useSpare {F : Frz} {μ : Mu} {σ : Store} {w : World} (hI : Inv F μ σ w) {k : Key} {b p r e n m : Nat} (hk : μ k = some (.spare b p r e n)) (hm : m ≤ r) (hm0 : 0 < m) (he0 : 0 < e)
    {us vs : List Value} {ty : TypeId} (hw : w.heap[b]? = some (.cells us.toArray ty (0, 0))) (hl : p + r * e ≤ us.length)
    (hn : ∀ off, p ≤ off → off < p + r * e → F ⟨b, off, none⟩ = none) (hv : vs.length = m * e) (h1' : ∀ u ∈ vs, u.oneCell' = true) :
    Post F μ w (F.put b p vs) (μ.set k (.spare b (p + m * e) (r - m) e (n + m))) (σ.put k (.tok (n + m)))
      (w.setRow b (us.take p ++ vs ++ us.drop (p + vs.length)).toArray) := by
  have hme : m * e ≤ r * e := Nat.mul_le_mul_right e hm
  have hsub : (r - m) * e = r * e - m * e := Nat.sub_mul r m e
  have hF : F.le (F.put b p vs) := Frz.le_put fun off h1 h2 => hn off h1 (by omega)
  have hg : (w.setRow b (us.take p ++ vs ++ us.drop (p + vs.length)).toArray).heap[b]? = some (.cells (us.take p ++ vs ++ us.drop (p + vs.length)).toArray ty (0, 0)) := setRow_heap w b _ _ ty (0, 0) hw
  have hoth : ∀ b', b' ≠ b → (w.setRow b (us.take p ++ vs ++ us.drop (p + vs.length)).toArray).heap[b']? = w.heap[b']? := fun b' h => setRow_other w b b' _ h
  have hr0 : r ≠ 0 := by omega
  have hlen : (us.take p ++ vs ++ us.drop (p + vs.length)).length = us.length := by simp; omega
  have hout : ∀ off, off < p ∨ p + vs.length ≤ off → (us.take p ++ vs ++ us.drop (p + vs.length))[off]? = us[off]? := fun off ho => by
    rcases ho with ho | ho
    · rw [List.append_assoc, List.getElem?_append_left (by simp; omega), List.getElem?_take, if_pos ho]
    · rw [List.getElem?_append_right (by simp; omega), List.getElem?_drop]
      congr 1; simp; omega
  have hle : μ.le (μ.set k (.spare b (p + m * e) (r - m) e (n + m))) := Mu.le_set fun h' hh => by
    rw [hk] at hh; cases hh; exact .inr ⟨_, _, _, _, _, rfl, by omega⟩
  refine ⟨⟨fun a u ha => ?_, fun k' o' hk' => ?_, fun k' h' hk' => ?_, fun k1 k2 h1 h2 hne e1 e2 => ?_⟩, ⟨hF, by simp, fun b' hb' => ?_, rfl, rfl, fun a u ha => ?_, fun k' h' hk' => ?_⟩, hle⟩
  · rcases Frz.put_cases ha with h | ⟨h1, h2, h3, h4⟩
    · obtain ⟨g1, g2, g3⟩ := hI.frozen a u h
      refine ⟨g1, ?_, g3⟩
      by_cases hb : a.block = b
      · have ha' : a = ⟨b, a.off, none⟩ := by cases a; simp_all
        have hno : ¬ (p ≤ a.off ∧ a.off < p + r * e) := fun hc => by
          rw [ha', hn a.off hc.1 hc.2] at h; cases h
        rw [ha'] at g2 ⊢
        simp only [World.cell?, hg, hw] at g2 ⊢
        simp only [Option.isSome_none, Bool.false_eq_true, if_false, List.getElem?_toArray] at g2 ⊢
        rw [hout a.off (by omega)]; exact g2
      · rw [← g2]; simp only [World.cell?, hoth a.block hb]
    · refine ⟨by rw [h1], ?_, h1' u (List.mem_of_getElem? h4)⟩
      rw [h1]
      simp only [World.cell?, hg]
      simp only [Option.isSome_none, Bool.false_eq_true, if_false, List.getElem?_toArray]
      rw [List.append_assoc, List.getElem?_append_right (by simp; omega)]
      have : a.off - (us.take p).length = a.off - p := by simp; omega
      rw [this, List.getElem?_append_left (by omega)]; exact h4
  · rw [Store.get_put] at hk'
    split at hk'
    · rename_i he; subst he; cases hk'
      refine ⟨_, Mu.set_same .., rfl, .inr ⟨he0, _, ty, hg, by rw [hlen]; omega, fun off h1 h2 => ?_⟩⟩
      cases hc : F.put b p vs ⟨b, off, none⟩ with
      | none => rfl
      | some u =>
        rcases Frz.put_cases hc with h | ⟨_, _, h3, _⟩
        · rw [hn off (by omega) (by omega)] at h; cases h
        · simp at h3; omega
    · rename_i he
      obtain ⟨h', h1, h2⟩ := hI.dom1 k' o' hk'
      have hd := hI.apart k k' _ h' he hk h1
      have hne : ∀ b', (h' = .blk b' ∨ ∃ p r e n, h' = .spare b' p r e n ∧ r ≠ 0) → b' ≠ b := fun b' hb' => by
        rcases hb' with rfl | ⟨p', r', e', n', rfl, h0⟩
        · rcases hd with h | h
          · exact absurd h hr0
          · exact Ne.symm h
        · rcases hd with h | h | h
          · exact absurd h hr0
          · exact absurd h h0
          · exact Ne.symm h
      refine ⟨h', by rw [Mu.set_other (Ne.symm he)]; exact h1, objRel_mono hF hle h2 (fun b' hb' => hoth b' (hne b' hb')) (fun b' off u hb' hq => ?_)⟩
      have : b' ≠ b := by
        refine hne b' ?_
        rcases hb' with h | ⟨p', r', e', n', h, h3, h4⟩
        · exact .inl h
        · exact .inr ⟨p', r', e', n', h, fun h0 => by subst h0; omega⟩
      rcases Frz.put_cases hq with h | ⟨h, _⟩
      · exact h
      · simp at h; exact absurd h this
  · rw [Store.get_put]
    split
    · exact ⟨_, rfl⟩
    · rename_i he
      rw [Mu.set_other (Ne.symm he)] at hk'
      exact hI.dom2 k' h' hk'
  · have hd : ∀ k' h', k' ≠ k → μ k' = some h' → (Hd.spare b (p + m * e) (r - m) e (n + m)).disj h' := fun k' h' hne' hk' => by
      have := hI.apart k k' _ h' (Ne.symm hne') hk hk'
      cases h' with
      | blk b' => simp only [Hd.disj] at *; omega
      | spare b' p' r' e' n' => simp only [Hd.disj] at *; omega
    by_cases c1 : k1 = k
    · subst c1
      rw [Mu.set_same] at e1; cases e1
      rw [Mu.set_other (Ne.symm hne)] at e2
      exact hd k2 h2 (Ne.symm hne) e2
    · rw [Mu.set_other c1] at e1
      by_cases c2 : k2 = k
      · subst c2
        rw [Mu.set_same] at e2; cases e2
        exact Hd.disj_symm (hd k1 h1 c1 e1)
      · rw [Mu.set_other c2] at e2
        exact hI.apart k1 k2 h1 h2 hne e1 e2
  · by_cases he : b' = b
    · subst he
      refine .inr (.inr ⟨us, _, ty, hw, hg, hlen, fun off hoff => hout off ?_⟩)
      refine Classical.byContradiction fun hc => hoff (.inr ⟨k, p, r, e, n, hk, ?_, ?_⟩) <;> simp <;> omega
    · exact .inr (.inl (hoth b' he))
  · rcases Frz.put_cases ha with h | ⟨h1, h2, h3, _⟩
    · exact .inl h
    · refine .inr (.inr (.inr ⟨k, p, r, e, n, by rw [h1]; exact hk, h2, by omega⟩))
  · by_cases c : k' = k
    · subst c; rw [Mu.set_same] at hk'; cases hk'
      exact .inr (.inr ⟨k', p, r, e, n, hk, by omega, by omega⟩)
    · rw [Mu.set_other c] at hk'; exact (Ext.refl μ F w).hd k' h' hk'

end Go.Ev
