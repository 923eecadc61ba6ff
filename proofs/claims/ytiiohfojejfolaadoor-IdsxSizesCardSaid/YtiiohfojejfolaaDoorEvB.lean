/-
  The evaluator, part B. What new memory, and what is written, does to what holds of a store. Each operation does in memory what it does on plain values: the operands, and the operations that only look. Each operation does in memory what it does on plain values: new memory, and what is written. Values of numbers, truths and texts, held against each other; keys of maps. Each operation does in memory what it does on plain values: those that only look, and cuts.
-/
import Derived.Test.YtiiohfojejfolaaDoorEvA
import Derived.Laws.CopyRow
import Derived.Laws.Cells
import Derived.Laws.Entries
import Derived.Laws.StructEq
import Derived.ChangeKeysEq
set_option linter.unusedVariables false
set_option linter.unusedSimpArgs false
namespace Go.Ev
open Go

def Post (F : Frz) (μ : Mu) (w : World) (F' : Frz) (μ' : Mu) (σ' : Store) (w' : World) : Prop :=
  Inv F' μ' σ' w' ∧ Ext μ F w μ' F' w' ∧ μ.le μ'

theorem Post.trans {F F' F'' : Frz} {μ μ' μ'' : Mu} {w w' w'' : World} {σ' σ'' : Store} (h : Post F μ w F' μ' σ' w') (h' : Post F' μ' w' F'' μ'' σ'' w'') : Post F μ w F'' μ'' σ'' w'' :=
  ⟨h'.1, h.2.1.trans h'.2.1, Mu.le_trans h.2.2 h'.2.2⟩

theorem Post.refl {F : Frz} {μ : Mu} {w : World} {σ : Store} (h : Inv F μ σ w) : Post F μ w F μ σ w := ⟨h, Ext.refl .., Mu.le_refl _⟩

def Mu.set (μ : Mu) (k : Key) (h : Hd) : Mu := fun k' => if k' = k then some h else μ k'
theorem Mu.set_same (μ : Mu) (k : Key) (h : Hd) : μ.set k h k = some h := by simp [Mu.set]
theorem Mu.set_other {μ : Mu} {k k' : Key} {h : Hd} (hk : k' ≠ k) : μ.set k h k' = μ k' := by simp [Mu.set, hk]
theorem Mu.le_set {μ : Mu} {k : Key} {h : Hd} (hk : ∀ h', μ k = some h' → h'.le h) : μ.le (μ.set k h) := fun k' h' hh => by
  by_cases he : k' = k
  · subst he; exact ⟨h, Mu.set_same .., hk h' hh⟩
  · exact ⟨h', by rw [Mu.set_other he]; exact hh, Hd.le_refl _⟩

/-- Cells of a block that stay from now on. -/
def Frz.put (F : Frz) (b lo : Nat) (us : List Value) : Frz := fun a =>
  if a.block = b ∧ a.spot = none ∧ lo ≤ a.off ∧ a.off < lo + us.length then us[a.off - lo]? else F a

theorem Frz.put_in {F : Frz} {b lo i : Nat} {us : List Value} (h : i < us.length) : F.put b lo us ⟨b, lo + i, none⟩ = us[i]? := by
  simp only [Frz.put]; rw [if_pos ⟨trivial, trivial, by omega, by omega⟩]; congr 1; omega

theorem Frz.le_put {F : Frz} {b lo : Nat} {us : List Value} (h : ∀ off, lo ≤ off → off < lo + us.length → F ⟨b, off, none⟩ = none) : F.le (F.put b lo us) := fun a u ha => by
  simp only [Frz.put]
  split
  · rename_i hc
    obtain ⟨h1, h2, h3, h4⟩ := hc
    have : a = ⟨b, a.off, none⟩ := by cases a; simp_all
    rw [this, h a.off h3 h4] at ha; cases ha
  · exact ha

theorem Frz.put_cases {F : Frz} {b lo : Nat} {us : List Value} {a : Addr} {u : Value} (h : F.put b lo us a = some u) :
    F a = some u ∨ (a = ⟨b, a.off, none⟩ ∧ lo ≤ a.off ∧ a.off < lo + us.length ∧ us[a.off - lo]? = some u) := by
  simp only [Frz.put] at h
  split at h
  · rename_i hc
    obtain ⟨h1, h2, h3, h4⟩ := hc
    exact .inr ⟨by cases a; simp_all, h3, h4, h⟩
  · exact .inl h

theorem frz_put {F : Frz} {b lo : Nat} {cs : List V} {us : List Value} (hF : F.le (F.put b lo us)) (h : rels F noMu cs us) : frz (F.put b lo us) b lo cs := by
  rw [frz_iff]
  intro i c hi
  obtain ⟨u, hu, hc⟩ := rels_get h hi
  have hl : i < us.length := by
    rcases Nat.lt_or_ge i us.length with h' | h'
    · exact h'
    · rw [List.getElem?_eq_none h'] at hu; cases hu
  exact ⟨u, by rw [Frz.put_in hl, hu], rel_mono hF (Mu.le_refl _) _ _ hc⟩

theorem Inv.frz_lt {F : Frz} {μ : Mu} {σ : Store} {w : World} (h : Inv F μ σ w) {a : Addr} {u : Value} (ha : F a = some u) : a.block < w.heap.size := by
  have := (h.frozen a u ha).2.1
  rcases Nat.lt_or_ge a.block w.heap.size with hl | hl
  · exact hl
  · simp [World.cell?, Array.getElem?_eq_none hl] at this

theorem Inv.mu_none {F : Frz} {μ : Mu} {σ : Store} {w : World} (h : Inv F μ σ w) {k : Key} (hk : σ.get k = none) : μ k = none := by
  cases hm : μ k with
  | none => rfl
  | some x => obtain ⟨o, ho⟩ := h.dom2 k x hm; rw [hk] at ho; cases ho

theorem push_get {w w' : World} {o : Go.Obj} (hh : w'.heap = w.heap.push o) : w'.heap[w.heap.size]? = some o := by rw [hh]; simp
theorem push_lt {w w' : World} {o : Go.Obj} (hh : w'.heap = w.heap.push o) {b : Nat} (hb : b < w.heap.size) : w'.heap[b]? = w.heap[b]? := by
  rw [hh, Array.getElem?_push]; rw [if_neg (by omega)]
theorem push_size {w w' : World} {o : Go.Obj} (hh : w'.heap = w.heap.push o) : w'.heap.size = w.heap.size + 1 := by rw [hh]; simp

/-- One more object, under a new name. -/
theorem Inv.add {F : Frz} {μ : Mu} {σ : Store} {w : World} (hI : Inv F μ σ w) {k : Key} (hk : σ.get k = none) {o : Obj} {h : Hd}
    (ho : objRel F (μ.set k h) w o h) (hd : ∀ k' h', μ k' = some h' → h.disj h') : Inv F (μ.set k h) (σ.put k o) w where
  frozen := hI.frozen
  dom1 := fun k' o' hk' => by
    rw [Store.get_put] at hk'
    split at hk'
    · rename_i he; subst he; cases hk'; exact ⟨h, Mu.set_same .., ho⟩
    · rename_i he
      obtain ⟨h', h1, h2⟩ := hI.dom1 k' o' hk'
      refine ⟨h', by rw [Mu.set_other (Ne.symm he)]; exact h1, objRel_mono F.le_refl (Mu.le_set fun h'' hh => ?_) h2 (fun _ _ => rfl) (fun _ _ _ _ hq => hq)⟩
      rw [hI.mu_none hk] at hh; cases hh
  dom2 := fun k' h' hh => by
    rw [Store.get_put]
    split
    · exact ⟨o, rfl⟩
    · rename_i he
      rw [Mu.set_other (Ne.symm he)] at hh
      exact hI.dom2 k' h' hh
  apart := fun k1 k2 h1 h2 hne e1 e2 => by
    by_cases c1 : k1 = k
    · subst c1
      rw [Mu.set_same] at e1; cases e1
      rw [Mu.set_other (Ne.symm hne)] at e2
      exact hd k2 h2 e2
    · rw [Mu.set_other c1] at e1
      by_cases c2 : k2 = k
      · subst c2
        rw [Mu.set_same] at e2; cases e2
        exact Hd.disj_symm (hd k1 h1 e1)
      · rw [Mu.set_other c2] at e2
        exact hI.apart k1 k2 h1 h2 hne e1 e2

theorem Hd.disj_new {F : Frz} {μ : Mu} {σ : Store} {w : World} (hI : Inv F μ σ w) {h : Hd} (hn : ∀ b, ((∃ t, h = .blk b t) ∨ ∃ p r e n, h = .spare b p r e n ∧ r ≠ 0) → w.heap.size ≤ b) :
    ∀ k' h', μ k' = some h' → h.disj h' := fun k' h' hk' => by
  obtain ⟨o, ho⟩ := hI.dom2 k' h' hk'
  obtain ⟨h'', h1, h2⟩ := hI.dom1 k' o ho
  rw [hk'] at h1; cases h1
  have hlt := objRel_lt h2
  cases h with
  | idle o => cases h' <;> simp only [Hd.disj]
  | blk b t =>
    have hb := hn b (.inl ⟨_, rfl⟩)
    cases h' with
    | blk b' t' => have := hlt b' (.inl ⟨_, rfl⟩); simp only [Hd.disj]; omega
    | idle o => simp only [Hd.disj]
    | spare b' p r e n =>
      simp only [Hd.disj]
      by_cases h0 : r = 0
      · exact .inl h0
      · have := hlt b' (.inr ⟨p, r, e, n, rfl, h0⟩); omega
  | spare b p r e n =>
    by_cases hr : r = 0
    · cases h' <;> simp only [Hd.disj] <;> exact .inl hr
    have hb := hn b (.inr ⟨p, r, e, n, rfl, hr⟩)
    cases h' with
    | blk b' t' => have := hlt b' (.inl ⟨_, rfl⟩); simp only [Hd.disj]; omega
    | idle o => simp only [Hd.disj]
    | spare b' p' r' e' n' =>
      simp only [Hd.disj]
      by_cases h0 : r' = 0
      · exact .inr (.inl h0)
      · have := hlt b' (.inr ⟨p', r', e', n', rfl, h0⟩); omega

theorem Ext.set {F : Frz} {μ : Mu} {w : World} {k : Key} {h : Hd} (hb : Born μ w h) : Ext μ F w (μ.set k h) F w :=
  { Ext.refl μ F w with
    hd := fun k' h' hk' => by
      by_cases c : k' = k
      · subst c; rw [Mu.set_same] at hk'; cases hk'; exact hb
      · rw [Mu.set_other c] at hk'; exact (Ext.refl μ F w).hd k' h' hk' }

/-- A new block that stays, up to its spare places. -/
theorem Post.newRow {F : Frz} {μ : Mu} {σ : Store} {w w' : World} (hI : Inv F μ σ w) (us rest : List Value) (ty : TypeId) (fr : Nat × Nat) (h1' : ∀ u ∈ us, u.oneCell' = true)
    (hh : w'.heap = w.heap.push (.cells (us ++ rest).toArray ty fr)) (ho : w'.os = w.os) (hq : w'.output = w.output) : Post F μ w (F.put w.heap.size 0 us) μ σ w' := by
  have hF : F.le (F.put w.heap.size 0 us) := Frz.le_put fun off _ _ => by
    cases hc : F ⟨w.heap.size, off, none⟩ with
    | none => rfl
    | some u => have := hI.frz_lt hc; simp at this
  have hlt : ∀ b, b < w.heap.size → w'.heap[b]? = w.heap[b]? := fun b hb => push_lt hh hb
  refine ⟨hI.grow hF hlt fun a u ha => ?_, Ext.grow hF (by rw [push_size hh]; omega) hlt (fun a u ha => ?_) ho hq, Mu.le_refl _⟩
  · rcases Frz.put_cases ha with h | ⟨h1, _, h3, h4⟩
    · exact .inl h
    · refine .inr ⟨by rw [h1]; exact Nat.le_refl _, by rw [h1], ?_, h1' u (List.mem_of_getElem? h4)⟩
      have h5 : (us ++ rest)[a.off]? = some u := by
        rw [List.getElem?_append_left (by omega)]; simpa using h4
      rw [h1]
      simp only [World.cell?, push_get hh]
      simpa using h5
  · rcases Frz.put_cases ha with h | ⟨h1, _⟩
    · exact .inl h
    · exact .inr (by rw [h1]; exact Nat.le_refl _)

/-- A new object of cells. -/
theorem Post.newBlkT (t : Option Nat) {F : Frz} {μ : Mu} {σ : Store} {w w' : World} (hI : Inv F μ σ w) {k : Key} (hk : σ.get k = none) {o : Obj} {g : Go.Obj}
    (hh : w'.heap = w.heap.push g) (ho : w'.os = w.os) (hq : w'.output = w.output)
    (hr : ∀ μ', μ.le μ' → objRel F μ' w' o (.blk w.heap.size t)) : Post F μ w F (μ.set k (.blk w.heap.size t)) (σ.put k o) w' := by
  have hlt : ∀ b, b < w.heap.size → w'.heap[b]? = w.heap[b]? := fun b hb => push_lt hh hb
  have h1 : Inv F μ σ w' := hI.grow F.le_refl hlt (fun a u ha => .inl ha)
  have h2 : Ext μ F w μ F w' := Ext.grow F.le_refl (by rw [push_size hh]; omega) hlt (fun a u ha => .inl ha) ho hq
  have hle : μ.le (μ.set k (.blk w.heap.size t)) := Mu.le_set fun h' hh' => by rw [hI.mu_none hk] at hh'; cases hh'
  refine ⟨h1.add hk (hr _ hle) fun k' h' hk' => ?_, ?_, hle⟩
  · exact Hd.disj_new hI (h := .blk w.heap.size t) (fun b hb => by rcases hb with ⟨_, hb⟩ | ⟨_, _, _, _, hb, _⟩ <;> cases hb; exact Nat.le_refl _) k' h' hk'
  · refine { h2 with hd := fun k' h' hk' => ?_ }
    by_cases c : k' = k
    · subst c; rw [Mu.set_same] at hk'; cases hk'; exact .inl (Nat.le_refl _)
    · rw [Mu.set_other c] at hk'; exact h2.hd k' h' hk'

theorem Post.newBlk {F : Frz} {μ : Mu} {σ : Store} {w w' : World} (hI : Inv F μ σ w) {k : Key} (hk : σ.get k = none) {o : Obj} {g : Go.Obj}
    (hh : w'.heap = w.heap.push g) (ho : w'.os = w.os) (hq : w'.output = w.output)
    (hr : ∀ μ', μ.le μ' → objRel F μ' w' o (.blk w.heap.size none)) : Post F μ w F (μ.set k (.blk w.heap.size none)) (σ.put k o) w' := Post.newBlkT none hI hk hh ho hq hr

/-- A new name for spare places in a new block, or for none. -/
theorem Post.newTok {F : Frz} {μ : Mu} {σ : Store} {w : World} (hI : Inv F μ σ w) {k : Key} (hk : σ.get k = none) {h : Hd} {n : Nat}
    (hr : objRel F (μ.set k h) w (.tok n) h) (hd : ∀ k' h', μ k' = some h' → h.disj h') : Inv F (μ.set k h) (σ.put k (.tok n)) w ∧ μ.le (μ.set k h) :=
  ⟨hI.add hk hr hd, Mu.le_set fun h' hh' => by rw [hI.mu_none hk] at hh'; cases hh'⟩

theorem Inv.not_in_blk {F : Frz} {μ : Mu} {σ : Store} {w : World} (hI : Inv F μ σ w) {k : Key} {b : Nat} {t : Option Nat} (hk : μ k = some (.blk b t)) {a : Addr} {u : Value} (ha : F a = some u) : a.block ≠ b := by
  intro he
  obtain ⟨o, ho⟩ := hI.dom2 k _ hk
  obtain ⟨h', h1, h2⟩ := hI.dom1 k o ho
  rw [hk] at h1; cases h1
  have hf := hI.frozen a u ha
  cases o with
  | cells cs =>
    cases t with
    | some s => exact h2.elim
    | none =>
    obtain ⟨us, ty, hw, _, hn⟩ := h2
    have : a = ⟨b, a.off, none⟩ := by cases a; simp_all
    rw [this, hn] at ha; cases ha
  | map es =>
    cases t with
    | some s => exact h2.elim
    | none =>
    obtain ⟨ents, clock, hw, _⟩ := h2
    have := hf.2.1
    simp [World.cell?, he, hw] at this
  | row cs =>
    cases t with
    | none => exact h2.elim
    | some s =>
    obtain ⟨us, ty, hw, _, _, _, hn⟩ := h2
    have : a = ⟨b, a.off, none⟩ := by cases a; simp_all
    rw [this, hn] at ha; cases ha
  | tok n => cases t <;> exact h2.elim
  | froz cs => cases t <;> exact h2.elim
  | dead => cases t <;> exact h2.elim

/-- An object is written. -/
theorem Post.setBlk {F : Frz} {μ : Mu} {σ : Store} {w w' : World} (hI : Inv F μ σ w) {k : Key} {b : Nat} {t : Option Nat} (hk : μ k = some (.blk b t)) {o : Obj}
    (hs : w'.heap.size = w.heap.size) (hh : ∀ b', b' ≠ b → w'.heap[b']? = w.heap[b']?) (hos : w'.os = w.os) (hq : w'.output = w.output)
    (hr : objRel F μ w' o (.blk b t)) : Post F μ w F μ (σ.put k o) w' := by
  refine ⟨⟨fun a u ha => ?_, fun k' o' hk' => ?_, fun k' h' hk' => ?_, hI.apart⟩, ⟨F.le_refl, by omega, fun b' hb' => ?_, hos, hq, fun a u ha => .inl ha, (Ext.refl μ F w).hd⟩, Mu.le_refl _⟩
  · obtain ⟨h1, h2, h3⟩ := hI.frozen a u ha
    refine ⟨h1, ?_, h3⟩
    rw [← h2]
    simp only [World.cell?, hh a.block (hI.not_in_blk hk ha)]
  · rw [Store.get_put] at hk'
    split at hk'
    · rename_i he; subst he; cases hk'; exact ⟨_, hk, hr⟩
    · rename_i he
      obtain ⟨h', h1, h2⟩ := hI.dom1 k' o' hk'
      refine ⟨h', h1, objRel_mono F.le_refl (Mu.le_refl _) h2 (fun b' hb' => hh b' ?_) (fun _ _ _ _ hq => hq)⟩
      have := hI.apart k k' _ h' he hk h1
      rcases hb' with ⟨_, rfl⟩ | ⟨p, r, e, n, rfl, h0⟩
      · exact Ne.symm this
      · rcases this with h | h
        · exact absurd h h0
        · exact Ne.symm h
  · rw [Store.get_put]
    split
    · exact ⟨o, rfl⟩
    · exact hI.dom2 k' h' hk'
  · by_cases he : b' = b
    · exact .inl ⟨k, t, he ▸ hk⟩
    · exact .inr (.inl (hh b' he))

/-- Spare places are used. -/
theorem Post.useSpare {F : Frz} {μ : Mu} {σ : Store} {w : World} (hI : Inv F μ σ w) {k : Key} {b p r e n m : Nat} (hk : μ k = some (.spare b p r e n)) (hm : m ≤ r) (hm0 : 0 < m) (he0 : 0 < e)
    {us vs : List Value} {ty : TypeId} (hw : w.heap[b]? = some (.cells us.toArray ty (0, 0))) (hl : p + r * e ≤ us.length)
    (hn : ∀ off, p ≤ off → off < p + r * e → F ⟨b, off, none⟩ = none) (hv : vs.length = m * e) (h1' : ∀ u ∈ vs, u.oneCell' = true) :
    Post F μ w (F.put b p vs) (μ.set k (.spare b (p + m * e) (r - m) e (n + m))) (σ.put k (.tok (n + m)))
      (w.setRow b (us.take p ++ vs ++ us.drop (p + vs.length)).toArray) := by
  have hme : m * e ≤ r * e := Nat.mul_le_mul_right e hm
  have hsub : (r - m) * e = r * e - m * e := Nat.sub_mul r m e
  have hF : F.le (F.put b p vs) := Frz.le_put fun off h1 h2 => hn off h1 (by omega)
  have hg : (w.setRow b (us.take p ++ vs ++ us.drop (p + vs.length)).toArray).heap[b]? = some (.cells (us.take p ++ vs ++ us.drop (p + vs.length)).toArray ty (0, 0)) := setRow_heap w b _ _ ty (0, 0) hw
  have hoth : ∀ b', b' ≠ b → (w.setRow b (us.take p ++ vs ++ us.drop (p + vs.length)).toArray).heap[b']? = w.heap[b']? := fun b' h => setRow_other w b b' _ h
  have hr0 : r ≠ 0 := by omega
  have hlen : (us.take p ++ vs ++ us.drop (p + vs.length)).length = us.length := by simp; omega
  have hout : ∀ off, off < p ∨ p + vs.length ≤ off → (us.take p ++ vs ++ us.drop (p + vs.length))[off]? = us[off]? := fun off ho => by
    rcases ho with ho | ho
    · rw [List.append_assoc, List.getElem?_append_left (by simp; omega), List.getElem?_take, if_pos ho]
    · rw [List.getElem?_append_right (by simp; omega), List.getElem?_drop]
      congr 1; simp; omega
  have hle : μ.le (μ.set k (.spare b (p + m * e) (r - m) e (n + m))) := Mu.le_set fun h' hh => by
    rw [hk] at hh; cases hh; exact .inr ⟨_, _, _, _, _, rfl, by omega⟩
  refine ⟨⟨fun a u ha => ?_, fun k' o' hk' => ?_, fun k' h' hk' => ?_, fun k1 k2 h1 h2 hne e1 e2 => ?_⟩, ⟨hF, by simp, fun b' hb' => ?_, rfl, rfl, fun a u ha => ?_, fun k' h' hk' => ?_⟩, hle⟩
  · rcases Frz.put_cases ha with h | ⟨h1, h2, h3, h4⟩
    · obtain ⟨g1, g2, g3⟩ := hI.frozen a u h
      refine ⟨g1, ?_, g3⟩
      by_cases hb : a.block = b
      · have ha' : a = ⟨b, a.off, none⟩ := by cases a; simp_all
        have hno : ¬ (p ≤ a.off ∧ a.off < p + r * e) := fun hc => by
          rw [ha', hn a.off hc.1 hc.2] at h; cases h
        rw [ha'] at g2 ⊢
        simp only [World.cell?, hg, hw] at g2 ⊢
        simp only [Option.isSome_none, Bool.false_eq_true, if_false, List.getElem?_toArray] at g2 ⊢
        rw [hout a.off (by omega)]; exact g2
      · rw [← g2]; simp only [World.cell?, hoth a.block hb]
    · refine ⟨by rw [h1], ?_, h1' u (List.mem_of_getElem? h4)⟩
      rw [h1]
      simp only [World.cell?, hg]
      simp only [Option.isSome_none, Bool.false_eq_true, if_false, List.getElem?_toArray]
      rw [List.append_assoc, List.getElem?_append_right (by simp; omega)]
      have : a.off - (us.take p).length = a.off - p := by simp; omega
      rw [this, List.getElem?_append_left (by omega)]; exact h4
  · rw [Store.get_put] at hk'
    split at hk'
    · rename_i he; subst he; cases hk'
      refine ⟨_, Mu.set_same .., rfl, .inr ⟨he0, _, ty, hg, by rw [hlen]; omega, fun off h1 h2 => ?_⟩⟩
      cases hc : F.put b p vs ⟨b, off, none⟩ with
      | none => rfl
      | some u =>
        rcases Frz.put_cases hc with h | ⟨_, _, h3, _⟩
        · rw [hn off (by omega) (by omega)] at h; cases h
        · simp at h3; omega
    · rename_i he
      obtain ⟨h', h1, h2⟩ := hI.dom1 k' o' hk'
      have hd := hI.apart k k' _ h' he hk h1
      have hne : ∀ b', ((∃ t, h' = .blk b' t) ∨ ∃ p r e n, h' = .spare b' p r e n ∧ r ≠ 0) → b' ≠ b := fun b' hb' => by
        rcases hb' with ⟨_, rfl⟩ | ⟨p', r', e', n', rfl, h0⟩
        · rcases hd with h | h
          · exact absurd h hr0
          · exact Ne.symm h
        · rcases hd with h | h | h
          · exact absurd h hr0
          · exact absurd h h0
          · exact Ne.symm h
      refine ⟨h', by rw [Mu.set_other (Ne.symm he)]; exact h1, objRel_mono hF hle h2 (fun b' hb' => hoth b' (hne b' hb')) (fun b' off u hb' hq => ?_)⟩
      have : b' ≠ b := by
        refine hne b' ?_
        rcases hb' with h | ⟨p', r', e', n', h, h3, h4⟩
        · exact .inl h
        · exact .inr ⟨p', r', e', n', h, fun h0 => by subst h0; omega⟩
      rcases Frz.put_cases hq with h | ⟨h, _⟩
      · exact h
      · simp at h; exact absurd h this
  · rw [Store.get_put]
    split
    · exact ⟨_, rfl⟩
    · rename_i he
      rw [Mu.set_other (Ne.symm he)] at hk'
      exact hI.dom2 k' h' hk'
  · have hd : ∀ k' h', k' ≠ k → μ k' = some h' → (Hd.spare b (p + m * e) (r - m) e (n + m)).disj h' := fun k' h' hne' hk' => by
      have := hI.apart k k' _ h' (Ne.symm hne') hk hk'
      cases h' with
      | blk b' t => simp only [Hd.disj] at *; omega
      | idle o => simp only [Hd.disj]
      | spare b' p' r' e' n' => simp only [Hd.disj] at *; omega
    by_cases c1 : k1 = k
    · subst c1
      rw [Mu.set_same] at e1; cases e1
      rw [Mu.set_other (Ne.symm hne)] at e2
      exact hd k2 h2 (Ne.symm hne) e2
    · rw [Mu.set_other c1] at e1
      by_cases c2 : k2 = k
      · subst c2
        rw [Mu.set_same] at e2; cases e2
        exact Hd.disj_symm (hd k1 h1 c1 e1)
      · rw [Mu.set_other c2] at e2
        exact hI.apart k1 k2 h1 h2 hne e1 e2
  · by_cases he : b' = b
    · subst he
      refine .inr (.inr ⟨us, _, ty, hw, hg, hlen, fun off hoff => hout off ?_⟩)
      refine Classical.byContradiction fun hc => hoff (.inr ⟨k, p, r, e, n, hk, ?_, ?_⟩) <;> simp <;> omega
    · exact .inr (.inl (hoth b' he))
  · rcases Frz.put_cases ha with h | ⟨h1, h2, h3, _⟩
    · exact .inl h
    · refine .inr (.inr (.inr ⟨k, p, r, e, n, by rw [h1]; exact hk, h2, by omega⟩))
  · by_cases c : k' = k
    · subst c; rw [Mu.set_same] at hk'; cases hk'
      exact .inr (.inr ⟨k', p, r, e, n, hk, by omega, by omega⟩)
    · rw [Mu.set_other c] at hk'; exact (Ext.refl μ F w).hd k' h' hk'

end Go.Ev

namespace Go.Ev
open Go

def Good (P : Program) (s : Sem Next) (F : Frz) (μ : Mu) (σ : Store) (w : World) (a : Ans) : Prop :=
  ∃ v w' F' μ', (s.run P w = .ok (.value v) w' ∨ (s.run P w = .ok .skip w' ∧ v = undef)) ∧ Post F μ w F' μ' (σ.puts a.up) w' ∧ rel F' μ' a.v v

theorem Good.same {P : Program} {s : Sem Next} {F : Frz} {μ : Mu} {σ : Store} {w : World} {x : V} {v : Value} (hI : Inv F μ σ w) (hs : s.run P w = .ok (.value v) w) (hv : rel F μ x v) : Good P s F μ σ w ⟨x, []⟩ :=
  ⟨v, w, F, μ, .inl hs, Post.refl hI, hv⟩

theorem just_run {σ : Store} {x : V} {a : Ans} {l rd : List Key} (h : (Act.just x).run σ l = some (a, rd)) : a = ⟨x, []⟩ := by
  simp only [Act.just, Act.run, Option.some.injEq, Prod.mk.injEq] at h; exact h.1.symm

/-! ### operands -/
theorem rel_ofValue {F : Frz} {μ : Mu} (v : Value) (x : V) (h : ofValue v = some x) : rel F μ x v := by
  unfold ofValue at h
  split at h <;> first | (cases h; done) | (cases h; simp [rel, rels])

def TmRel (F : Frz) (μ : Mu) (tm : Tm) (us : Array Value) : Prop := ∀ i, rel F μ (tm.at i) (us.getD i undef)

theorem rel_opd {G : Globals} {F : Frz} {μ : Mu} {tm : Tm} {a : Go.Act} (hG : ∀ g cs, G.get g = some cs → frz F g 0 cs) (ht : TmRel F μ tm a.tmps) {x : Operand} {y : AOpd}
    (h : prepOpd G x = some y) : rel F μ (y.ev tm) (a.eval x) := by
  cases x with
  | tmp t =>
    simp only [prepOpd, Option.some.injEq] at h; subst h
    exact ht t
  | const v =>
    simp only [prepOpd, Option.map_eq_some_iff] at h
    obtain ⟨x, hx, rfl⟩ := h
    exact rel_ofValue v x hx
  | global g =>
    simp only [prepOpd, Option.map_eq_some_iff] at h
    obtain ⟨cs, hx, rfl⟩ := h
    simp only [AOpd.ev, Act.eval, rel]
    exact ⟨g, 0, rfl, hG g cs hx⟩
  | func f =>
    simp only [prepOpd, Option.some.injEq] at h; subst h
    simp only [AOpd.ev, Act.eval, rel]
    exact ⟨[], [], rfl, rfl, rfl⟩

theorem rel_nilrow {F : Frz} {μ : Mu} {n : Nat} {u : Value} (h : rel F μ .nilslc u) : rel F μ (.slc n [] .tight) u := by
  simp only [rel] at h ⊢
  subst h
  exact ⟨none, 0, by simp, by simp, rfl⟩

theorem rel_coerce {P : Program} {t : TypeId} {F : Frz} {μ : Mu} {tm : Tm} {x : AOpd} {u : Value} (h : rel F μ (x.ev tm) u) : rel F μ ((coerce P t x).ev tm) u := by
  unfold coerce
  split
  · split
    · exact rel_nilrow h
    · exact h
  · exact h

theorem rels_opds {G : Globals} {F : Frz} {μ : Mu} {tm : Tm} {a : Go.Act} (hG : ∀ g cs, G.get g = some cs → frz F g 0 cs) (ht : TmRel F μ tm a.tmps) : ∀ {xs : List Operand} {ys : List AOpd},
    prepOpds G xs = some ys → rels F μ (ys.map (AOpd.ev tm)) (xs.map a.eval)
  | [], ys, h => by simp only [prepOpds, Option.some.injEq] at h; subst h; simp [rels]
  | x :: r, ys, h => by
    simp only [prepOpds] at h
    split at h
    · rename_i y l h1 h2
      cases h
      simp only [List.map_cons, rels]
      exact ⟨_, _, rfl, rel_opd hG ht h1, rels_opds hG ht h2⟩
    · cases h

theorem rels_coerces {P : Program} {F : Frz} {μ : Mu} {tm : Tm} : ∀ {ts : List TypeId} {ys : List AOpd} {us : List Value},
    rels F μ (ys.map (AOpd.ev tm)) us → rels F μ ((coerces P ts ys).map (AOpd.ev tm)) us
  | [], ys, us, h => by simpa [coerces] using h
  | t :: ts, [], us, h => by simpa [coerces] using h
  | t :: ts, y :: ys, us, h => by
    simp only [List.map_cons, rels] at h
    obtain ⟨u, us', rfl, h1, h2⟩ := h
    simp only [coerces, List.map_cons, rels]
    exact ⟨u, us', rfl, rel_coerce h1, rels_coerces h2⟩

/-! ### types -/
section
variable {P : Program} {w : World}

theorem sizeT_info {t : TypeId} {n : Nat} (h : sizeT P t = some n) : ∃ i d, P.info? t = some i ∧ i.size = n ∧ P.underlying t = some d := by
  unfold sizeT at h
  split at h
  · rename_i hu
    obtain ⟨d, hd⟩ := Option.isSome_iff_exists.1 hu
    cases hi : P.info? t with
    | none => simp [hi] at h
    | some i => exact ⟨i, d, rfl, by simpa [hi] using h, hd⟩
  · cases h

theorem run_sizeOf' {t : TypeId} {n : Nat} (h : sizeT P t = some n) : (sizeOf t).run P w = .ok n w := by
  obtain ⟨i, d, hi, hn, _⟩ := sizeT_info h
  simp [sizeOf, typeInfo, hi, hn]

theorem run_isAgg {t : TypeId} {n : Nat} (h : sizeT P t = some n) : (isAgg t).run P w = .ok (aggT P t) w := by
  obtain ⟨i, d, hi, hn, hd⟩ := sizeT_info h
  unfold isAgg aggT
  simp only [Sem.run_bind, run_underlying hd, Result.andThen_ok, hd]
  cases d <;> simp

theorem addr_add (b o n : Nat) : (⟨b, o, none⟩ : Addr).add n = ⟨b, o + n, none⟩ := by
  unfold Addr.add; split <;> simp_all

/-- Cells that are read, one behind the other. -/
theorem run_loads {b o : Nat} {us : List Value} (h : ∀ j v, us[j]? = some v → w.cell? ⟨b, o + j, none⟩ = some v) : (loadCells ⟨b, o, none⟩ us.length).run P w = .ok us.toArray w :=
  run_loadCells_list (P := P) w ⟨b, o, none⟩ us fun j v hj => by rw [addr_add]; exact h j v hj

theorem run_loadVar' {t : TypeId} {n b o : Nat} {us : List Value} (ht : sizeT P t = some n) (hn : us.length = n) (h : ∀ j v, us[j]? = some v → w.cell? ⟨b, o + j, none⟩ = some v) (h1 : aggT P t = false → n = 1) :
    (loadVar t ⟨b, o, none⟩).run P w = .ok (if aggT P t then .agg us.toArray else us.headD undef) w := by
  unfold loadVar
  simp only [Sem.run_bind, run_isAgg ht, Result.andThen_ok]
  cases hg : aggT P t with
  | true =>
    simp only [if_true, Sem.run_bind, run_sizeOf' ht, Result.andThen_ok]
    rw [← hn, run_loads h]
    rfl
  | false =>
    have hn1 := h1 hg
    cases us with
    | nil => simp at hn; omega
    | cons u r =>
      have := h 0 u rfl
      simp at this
      simp [this]

theorem rel_mk {F : Frz} {μ : Mu} {cs : List V} {us : List Value} {agg : Bool} (h : rels F μ cs us) (h1 : cs ≠ []) : rel F μ (V.mk agg cs) (if agg then .agg us.toArray else us.headD undef) := by
  cases agg with
  | true => simp only [V.mk, if_true, rel]; exact ⟨us, rfl, h⟩
  | false =>
    cases cs with
    | nil => exact absurd rfl h1
    | cons c r =>
      simp only [rels] at h
      obtain ⟨u, us', rfl, hc, _⟩ := h
      simpa [V.mk] using hc

theorem mem_of_take_drop {l : List Value} {off n j : Nat} {v : Value} (h : ((l.drop off).take n)[j]? = some v) : l[off + j]? = some v := by
  rw [List.getElem?_take] at h
  split at h
  · simpa using h
  · cases h

variable {F : Frz} {μ : Mu} {σ : Store}

theorem Inv.cells {k : Key} {b : Nat} {cs : List V} (hI : Inv F μ σ w) (hk : σ.get k = some (.cells cs)) (hb : μ k = some (.blk b none)) :
    ∃ (us : List Value) (ty : TypeId), w.heap[b]? = some (.cells us.toArray ty (0, 0)) ∧ rels F μ cs us ∧ ∀ off, F ⟨b, off, none⟩ = none := by
  obtain ⟨h, h1, h2⟩ := hI.dom1 k _ hk
  rw [hb] at h1; cases h1
  exact h2

theorem Inv.map {k : Key} {b : Nat} {es : List (V × V)} (hI : Inv F μ σ w) (hk : σ.get k = some (.map es)) (hb : μ k = some (.blk b none)) :
    ∃ (ents : Array MapEntry) (clock : Nat), w.heap[b]? = some (.map ents clock) ∧ mapRel F μ es ents.toList := by
  obtain ⟨h, h1, h2⟩ := hI.dom1 k _ hk
  rw [hb] at h1; cases h1
  exact h2

theorem cell_of_heap {b j : Nat} {us : List Value} {ty : TypeId} {fr : Nat × Nat} (h : w.heap[b]? = some (.cells us.toArray ty fr)) : w.cell? ⟨b, j, none⟩ = us[j]? := by
  simp [World.cell?, h]

/-- Cells that stay, read. -/
theorem frz_read {b o : Nat} {cs : List V} (hI : Inv F μ σ w) (h : frz F b o cs) : ∃ us, rels F noMu cs us ∧ (∀ j v, us[j]? = some v → w.cell? ⟨b, o + j, none⟩ = some v) ∧ ∀ u ∈ us, u.oneCell' = true := by
  induction cs generalizing o with
  | nil => exact ⟨[], rfl, by simp, by simp⟩
  | cons c r ih =>
    simp only [frz] at h
    obtain ⟨⟨u, hu, hc⟩, hr⟩ := h
    obtain ⟨us, h1, h2, h3⟩ := ih hr
    refine ⟨u :: us, ⟨u, us, rfl, hc, h1⟩, fun j v hj => ?_, fun x hx => by
      rcases List.mem_cons.1 hx with rfl | hx
      · exact (hI.frozen _ _ hu).2.2
      · exact h3 x hx⟩
    cases j with
    | zero => simp at hj; subst hj; exact (hI.frozen _ _ hu).2.1
    | succ j =>
      simp at hj
      have := h2 j v hj
      rwa [Nat.add_assoc, Nat.add_comm 1 j] at this

/-- A row that may be written. -/
theorem Inv.row {k : Key} {cs : List V} {h : Hd} {q : Option (Nat × Nat)} (hI : Inv F μ σ w) (hk : σ.get k = some (.row cs)) (hm : μ k = some h) (hq : h.rowOf = some q) :
    ∃ b s, h = .blk b (some s) ∧ q = some (b, s) ∧ ∃ (us : List Value) (ty : TypeId), w.heap[b]? = some (.cells us.toArray ty (0, 0)) ∧ us.length = s ∧ cs.length ≤ s ∧ rels F μ cs (us.take cs.length) ∧ ∀ off, F ⟨b, off, none⟩ = none := by
  obtain ⟨h', h1, h2⟩ := hI.dom1 k _ hk
  rw [hm] at h1; cases h1
  cases h with
  | blk b t =>
    cases t with
    | none => exact h2.elim
    | some s => exact ⟨b, s, rfl, by simpa [Hd.rowOf] using hq.symm, h2⟩
  | spare => exact h2.elim
  | idle => exact h2.elim

/-- A row, read. -/
theorem Inv.rowRead {k : Key} {o : Obj} {cs : List V} {h : Hd} {q : Option (Nat × Nat)} (hI : Inv F μ σ w) (hk : σ.get k = some o) (hc : o.rowCells = some cs) (hm : μ k = some h) (hq : h.rowOf = some q) :
    ∃ b s us, q = some (b, s) ∧ cs.length ≤ s ∧ rels F μ cs us ∧ us.length = cs.length ∧ (∀ j v, us[j]? = some v → w.cell? ⟨b, j, none⟩ = some v) ∧ ((∃ us0 ty, w.heap[b]? = some (.cells us0 ty (0, 0))) ∨ frz F b 0 cs) := by
  cases o <;> simp only [Obj.rowCells, Option.some.injEq, reduceCtorEq] at hc
  · subst hc
    obtain ⟨b, s, rfl, rfl, us, ty, hw, h1, h2, h3, h4⟩ := hI.row hk hm hq
    refine ⟨b, s, us.take _, rfl, h2, h3, (rels_length h3).symm, fun j v hj => ?_, .inl ⟨_, ty, hw⟩⟩
    rw [cell_of_heap hw]
    rw [List.getElem?_take] at hj
    split at hj
    · exact hj
    · cases hj
  · subst hc
    obtain ⟨h', h1, h2⟩ := hI.dom1 k _ hk
    rw [hm] at h1; cases h1
    cases h with
    | blk b t => cases t <;> exact h2.elim
    | spare => exact h2.elim
    | idle o =>
      cases o with
      | none => exact h2.elim
      | some p =>
        obtain ⟨b, s⟩ := p
        simp only [Hd.rowOf, Option.some.injEq] at hq
        subst hq
        obtain ⟨us, g1, g2, g3⟩ := frz_read hI h2.1
        exact ⟨b, s, us, rfl, h2.2, rels_mono F.le_refl (noMu_le μ) _ _ g1, (rels_length g1).symm, fun j v hj => by have := g2 j v hj; rwa [Nat.zero_add] at this, .inr h2.1⟩

theorem good_load {t : TypeId} {n : Nat} {x : V} {u : Value} {a : Ans} {rd : List Key} (hI : Inv F μ σ w) (ht : sizeT P t = some n) (hx : rel F μ x u) (h1 : aggT P t = false → n = 1) (h0 : n ≠ 0)
    (hr : (match x with
      | .ptr k off => Act.get k fun
        | .cells cs => if ((cs.drop off).take n).length = n then Act.just (V.mk (aggT P t) ((cs.drop off).take n)) else .fail
        | _ => .fail
      | .elem cs => if (cs.take n).length = n then Act.just (V.mk (aggT P t) (cs.take n)) else .fail
      | .rptr k off => Act.get k fun o => loadRow (aggT P t) n off o.rowCells
      | _ => Act.fail).run σ [] = some (a, rd)) : Good P (do pure (.value (← Instr.loadAt t u))) F μ σ w a := by
  cases x <;> simp only [Act.run, reduceCtorEq] at hr
  case ptr k off =>
    simp only [rel] at hx
    obtain ⟨b, hb, rfl⟩ := hx
    split at hr
    · rename_i o ho
      cases o <;> simp only [Act.run, reduceCtorEq] at hr
      case cells cs =>
        obtain ⟨us, ty, hw, hc, _⟩ := hI.cells ho hb
        split at hr
        · rename_i hl
          have := just_run hr; subst this
          have hc' := rels_take n (rels_drop off hc)
          have hlen := rels_length hc'
          have hrun := run_loadVar' (P := P) (w := w) ht (b := b) (o := off) (us := (us.drop off).take n) (by rw [← hlen, hl]) (fun j v hj => by
            rw [cell_of_heap hw]; exact mem_of_take_drop hj) h1
          refine Good.same hI ?_ (rel_mk hc' (by intro hn; rw [hn] at hl; simp at hl; omega))
          simp [Instr.loadAt, Instr.sureAddr, hrun]
        · simp [Act.run] at hr
    · cases hr
  case elem cs =>
    simp only [rel] at hx
    obtain ⟨b, o, rfl, hf⟩ := hx
    split at hr
    · rename_i hl
      have := just_run hr; subst this
      obtain ⟨us, hc, hcell, _⟩ := frz_read hI (frz_take (n := n) hf)
      have hlen := rels_length hc
      have hrun := run_loadVar' (P := P) (w := w) ht (b := b) (o := o) (us := us) (by rw [← hlen, hl]) hcell h1
      refine Good.same hI ?_ (rel_mk (rels_mono F.le_refl (noMu_le μ) _ _ hc) (by intro hn; rw [hn] at hl; simp at hl; omega))
      simp [Instr.loadAt, Instr.sureAddr, hrun]
    · simp [Act.run] at hr
  case rptr k off =>
    simp only [rel] at hx
    obtain ⟨_, h, q, hm, hq, hu⟩ := hx
    split at hr
    · rename_i o ho
      cases hc : o.rowCells with
      | none => simp [hc, loadRow, Act.run] at hr
      | some cs =>
        obtain ⟨b, s, us, rfl, _, hcs, hul, hcell, _⟩ := hI.rowRead ho hc hm hq
        have hu := hu b s rfl
        subst hu
        simp only [hc, loadRow] at hr
        split at hr
        · rename_i hl
          have := just_run hr; subst this
          have hc' := rels_take n (rels_drop off hcs)
          have hlen := rels_length hc'
          have hrun := run_loadVar' (P := P) (w := w) ht (b := b) (o := off) (us := (us.drop off).take n) (by rw [← hlen, hl]) (fun j v hj => hcell _ _ (mem_of_take_drop hj)) h1
          refine Good.same hI ?_ (rel_mk hc' (by intro hn; rw [hn] at hl; simp at hl; omega))
          simp [Instr.loadAt, Instr.sureAddr, hrun]
        · simp [Act.run] at hr
    · cases hr

end
end Go.Ev

namespace Go.Ev
open Go
section
variable {P : Program} {w : World} {F : Frz} {μ : Mu} {σ : Store}

theorem new_run {α : Type} {k : Key} {f : Act α} {l : List Key} {r : α × List Key} (h : (Act.new k f).run σ l = some r) : σ.get k = none ∧ f.run σ (k :: l) = some r := by
  simp only [Act.run] at h
  split at h
  · cases h
  · rename_i hk; exact ⟨hk, h⟩

theorem ret_run {α : Type} {a : α} {l : List Key} {r : α × List Key} (h : (Act.ret a).run σ l = some r) : r.1 = a := by
  simp only [Act.run, Option.some.injEq] at h; rw [← h]

theorem get_run {α : Type} {k : Key} {f : Obj → Act α} {l : List Key} {r : α × List Key} (h : (Act.get k f).run σ l = some r) : ∃ o, σ.get k = some o ∧ (f o).run σ (k :: l) = some r := by
  simp only [Act.run] at h
  split at h
  · rename_i o ho; exact ⟨o, ho, h⟩
  · cases h

theorem fail_run {α : Type} {l : List Key} {r : α × List Key} (h : (Act.fail : Act α).run σ l = some r) : False := by simp [Act.run] at h

theorem zeroCell_rel {t : TypeId} {v : Value} {x : V} (h : zeroCell P t v = some x) : rel F μ x v := by
  unfold zeroCell at h
  split at h
  · split at h
    · cases h; simp only [rel]; exact ⟨none, 0, by simp, by simp, rfl⟩
    · cases h
  · split at h
    · split at h
      · cases h; rename_i hv _; exact rel_ofValue _ _ hv
      · cases h
    · cases h

theorem zeroCells_rels : ∀ {ts : List TypeId} {vs : List Value} {xs : List V}, zeroCells P ts vs = some xs → rels F μ xs vs
  | [], [], xs, h => by simp only [zeroCells, Option.some.injEq] at h; subst h; simp [rels]
  | [], _ :: _, xs, h => by simp [zeroCells] at h
  | _ :: _, [], xs, h => by simp [zeroCells] at h
  | t :: ts, v :: vs, xs, h => by
    simp only [zeroCells] at h
    split at h
    · rename_i x r h1 h2
      cases h
      exact ⟨v, vs, rfl, zeroCell_rel h1, zeroCells_rels h2⟩
    · cases h

theorem zeroT_spec {t : TypeId} {cs : List V} (h : zeroT P t = some cs) : ∃ i v, P.info? t = some i ∧ i.zero = some v ∧ ∀ (F : Frz) (μ : Mu), rels F μ cs v.cells.toList := by
  unfold zeroT at h
  split at h
  · rename_i i ts hi _
    split at h
    · rename_i v hv
      exact ⟨i, v, hi, hv, fun F μ => zeroCells_rels h⟩
    · cases h
  · cases h

theorem good_alloc {t : TypeId} {cs : List V} {k : Key} {a : Ans} {l rd : List Key} (hI : Inv F μ σ w) (hz : zeroT P t = some cs)
    (hr : (Act.new k (.ret ⟨.ptr k 0, [(k, .cells cs)]⟩)).run σ l = some (a, rd)) : Good P (do pure (.value (← Instr.alloc t true (.tuple #[])))) F μ σ w a := by
  obtain ⟨hk, hr⟩ := new_run hr
  have := ret_run hr; subst this
  obtain ⟨i, v, hi, hv, hc⟩ := zeroT_spec hz
  refine ⟨.pointer (some ⟨w.heap.size, 0, none⟩), { w with heap := w.heap.push (.cells v.cells t) }, F, μ.set k (.blk w.heap.size none), .inl ?_, ?_, ?_⟩
  · simp [Instr.alloc, zeroValue, typeInfo, hi, hv, newVar, newRow]
  · exact Post.newBlk hI hk rfl rfl rfl fun μ' _ => ⟨v.cells.toList, t, by simp, hc F μ', fun off => by
      cases hq : F ⟨w.heap.size, off, none⟩ with
      | none => rfl
      | some u => have := hI.frz_lt hq; simp at this⟩
  · simp only [rel]; exact ⟨_, Mu.set_same .., rfl⟩

theorem good_box {t : TypeId} {x : V} {u : Value} {k : Key} {a : Ans} {l rd : List Key} (hI : Inv F μ σ w) (hx : rel F μ x u) (hc : x.cellsOf.all V.isCell = true)
    (hr : (Act.new k (.ret ⟨.ptr k 0, [(k, .cells x.cellsOf)]⟩)).run σ l = some (a, rd)) : Good P (do pure (.value (← Instr.box t u))) F μ σ w a := by
  obtain ⟨hk, hr⟩ := new_run hr
  have := ret_run hr; subst this
  have hn : x ≠ .undef := by rintro rfl; simp [V.cellsOf, V.isCell] at hc
  have hcs := rel_cells hx hn
  refine ⟨.pointer (some ⟨w.heap.size, 0, none⟩), { w with heap := w.heap.push (.cells u.cells t) }, F, μ.set k (.blk w.heap.size none), .inl ?_, ?_, ?_⟩
  · simp [Instr.box, newVar, newRow]
  · exact Post.newBlk hI hk rfl rfl rfl fun μ' hm => ⟨u.cells.toList, t, by simp, rels_mono F.le_refl hm _ _ hcs, fun off => by
      cases hq : F ⟨w.heap.size, off, none⟩ with
      | none => rfl
      | some u => have := hI.frz_lt hq; simp at this⟩
  · simp only [rel]; exact ⟨_, Mu.set_same .., rfl⟩

theorem good_makeMap {t : TypeId} {k : Key} {a : Ans} {l rd : List Key} (hI : Inv F μ σ w)
    (hr : (Act.new k (.ret ⟨.map k, [(k, .map [])]⟩)).run σ l = some (a, rd)) : Good P (do pure (.value (← Instr.makeMap t none))) F μ σ w a := by
  obtain ⟨hk, hr⟩ := new_run hr
  have := ret_run hr; subst this
  refine ⟨.map (some w.heap.size), { w with heap := w.heap.push (.map #[] 0) }, F, μ.set k (.blk w.heap.size none), .inl ?_, ?_, ?_⟩
  · simp [Instr.makeMap]
  · exact Post.newBlk hI hk rfl rfl rfl fun μ' _ => ⟨#[], 0, by simp, rfl⟩
  · simp only [rel]; exact ⟨_, Mu.set_same .., rfl⟩

theorem splice_length {cs vs : List V} {off : Nat} (h : off + vs.length ≤ cs.length) : (splice cs off vs).length = cs.length := by
  unfold splice; simp; omega

theorem rels_splice {cs vs : List V} {us xs : List Value} {off : Nat} (h : rels F μ cs us) (h' : rels F μ vs xs) :
    rels F μ (splice cs off vs) (us.take off ++ xs ++ us.drop (off + xs.length)) := by
  unfold splice
  rw [rels_length h']
  exact rels_append (rels_append (rels_take _ h) h') (rels_drop _ h)

theorem oneCell_of_rels {vs : List V} {us : List Value} (h : rels F μ vs us) (hc : vs.all V.isCell = true) : ∀ u ∈ us, u.oneCell' = true := by
  intro u hu
  obtain ⟨i, hi⟩ := List.getElem?_of_mem hu
  have hl := rels_length h
  have hlt : i < vs.length := by
    rw [hl]
    rcases Nat.lt_or_ge i us.length with h' | h'
    · exact h'
    · rw [List.getElem?_eq_none h'] at hi; cases hi
  have := (rels_iff.1 h).2 i vs[i] u (List.getElem?_eq_getElem hlt) hi
  have hcell : vs[i].isCell = true := by
    rw [List.all_eq_true] at hc; exact hc _ (List.getElem_mem hlt)
  obtain ⟨h1, h2⟩ := rel_isCell this hcell
  cases u <;> first | rfl | exact absurd rfl (h1 _) | exact absurd rfl (h2 _)

theorem run_storeCells' {b off : Nat} {us xs : List Value} {ty : TypeId} (hw : w.heap[b]? = some (.cells us.toArray ty (0, 0))) (hl : off + xs.length ≤ us.length) (h1 : ∀ u ∈ xs, u.oneCell' = true) :
    (storeCells ⟨b, off, none⟩ xs).run P w = .ok () (w.setRow b (us.take off ++ xs ++ us.drop (off + xs.length)).toArray) := by
  have := run_storeCells_at P b off ty xs 0 us.toArray w hw (by simpa using hl) h1
  simpa using this

/-- A row, written. -/
theorem row_splice {b s off : Nat} {cs vs : List V} {us xs : List Value} {ty : TypeId} (hw : w.heap[b]? = some (.cells us.toArray ty (0, 0))) (e1 : us.length = s) (e2 : cs.length ≤ s) (hc : rels F μ cs (us.take cs.length)) (hv : rels F μ vs xs)
    (hf : ∀ off, F ⟨b, off, none⟩ = none) (h2 : off + vs.length ≤ cs.length) :
    objRel F μ (w.setRow b (us.take off ++ xs ++ us.drop (off + xs.length)).toArray) (.row (splice cs off vs)) (.blk b (some s)) := by
  have hlen := rels_length hv
  refine ⟨_, ty, setRow_heap w b _ _ ty (0, 0) hw, by simp; omega, by rw [splice_length h2]; exact e2, ?_, hf⟩
  rw [splice_length h2]
  have := rels_splice (off := off) hc hv
  have e : (us.take off ++ xs ++ us.drop (off + xs.length)).take cs.length = (us.take cs.length).take off ++ xs ++ (us.take cs.length).drop (off + xs.length) := by
    rw [List.take_append, List.take_of_length_le (by simp; omega)]
    rw [List.take_take, Nat.min_eq_left (by omega), List.drop_take]
    congr 2
    simp; omega
  rw [e]; exact this

theorem good_store {t : TypeId} {n : Nat} {x y : V} {u v : Value} {a : Ans} {rd : List Key} (hI : Inv F μ σ w) (ht : sizeT P t = some n) (hx : rel F μ x u) (hy : rel F μ y v)
    (hr : (match x with
      | .ptr k off => Act.get k fun
        | .cells cs =>
          if y.cellsOf.length = n ∧ off + n ≤ cs.length ∧ y.cellsOf.all V.isCell = true then .ret (⟨.tuple [], [(k, .cells (splice cs off y.cellsOf))]⟩ : Ans) else .fail
        | _ => .fail
      | .rptr k off => Act.get k fun
        | .row cs => storeRow n k off cs y.cellsOf
        | _ => .fail
      | _ => Act.fail).run σ [] = some (a, rd)) : Good P (do Instr.storeAt t u v; pure .skip) F μ σ w a := by
  cases x <;> simp only [Act.run, reduceCtorEq] at hr
  case ptr k off =>
    simp only [rel] at hx
    obtain ⟨b, hb, rfl⟩ := hx
    split at hr
    · rename_i o ho
      cases o <;> simp only [Act.run, reduceCtorEq] at hr
      case cells cs =>
        obtain ⟨us, ty, hw, hc, hf⟩ := hI.cells ho hb
        split at hr
        · rename_i hl
          obtain ⟨h1, h2, h3⟩ := hl
          have := ret_run hr; simp only at this; subst this
          have hn : y ≠ .undef := by rintro rfl; simp [V.cellsOf, V.isCell] at h3
          have hcs := rel_cells hy hn
          have hlen := rels_length hcs
          have hlen2 := rels_length hc
          have hst := run_storeCells' (P := P) hw (off := off) (xs := v.cells.toList) (by rw [← hlen, h1, ← hlen2]; exact h2) (oneCell_of_rels hcs h3)
          refine ⟨undef, w.setRow b (us.take off ++ v.cells.toList ++ us.drop (off + v.cells.toList.length)).toArray, F, μ, .inr ⟨?_, rfl⟩, ?_, by simp [rel, rels, undef]⟩
          · have hsz : v.cells.size = n := by rw [← h1, hlen]; simp
            simp only [Instr.storeAt, Instr.sureAddr, storeVar, Sem.run_bind, Sem.run_pure, Result.andThen_ok, run_sizeOf' ht, hsz, ne_eq, not_true_eq_false, if_false, hst]
          · refine Post.setBlk hI hb (by simp) (fun b' hb' => setRow_other w b b' _ hb') rfl rfl ?_
            exact ⟨_, ty, setRow_heap w b _ _ ty (0, 0) hw, rels_splice hc hcs, hf⟩
        · exact (fail_run hr).elim
    · cases hr
  case rptr k off =>
    simp only [rel] at hx
    obtain ⟨_, h, q, hm, hq, hu⟩ := hx
    split at hr
    · rename_i o ho
      cases o <;> simp only [Act.run, reduceCtorEq] at hr
      case row cs =>
        obtain ⟨b, s, rfl, rfl, us, ty, hw, e1, e2, hc, hf⟩ := hI.row ho hm hq
        have hu := hu b s rfl
        subst hu
        simp only [storeRow, forceL_eq] at hr
        split at hr
        · rename_i hl
          obtain ⟨h1, h2, h3⟩ := hl
          have := ret_run hr; simp only at this; subst this
          have hn : y ≠ .undef := by rintro rfl; simp [V.cellsOf, V.isCell] at h3
          have hcs := rel_cells hy hn
          have hlen := rels_length hcs
          have hst := run_storeCells' (P := P) hw (off := off) (xs := v.cells.toList) (by rw [← hlen, h1]; omega) (oneCell_of_rels hcs h3)
          refine ⟨undef, w.setRow b (us.take off ++ v.cells.toList ++ us.drop (off + v.cells.toList.length)).toArray, F, μ, .inr ⟨?_, rfl⟩, ?_, by simp [rel, rels, undef]⟩
          · have hsz : v.cells.size = n := by rw [← h1, hlen]; simp
            simp only [Instr.storeAt, Instr.sureAddr, storeVar, Sem.run_bind, Sem.run_pure, Result.andThen_ok, run_sizeOf' ht, hsz, ne_eq, not_true_eq_false, if_false, hst]
          · refine Post.setBlk hI hm (by simp) (fun b' hb' => setRow_other w b b' _ hb') rfl rfl ?_
            exact row_splice hw e1 e2 hc hcs hf (by rw [h1]; exact h2)
        · exact (fail_run hr).elim
    · cases hr

/-! ### whole numbers, truths, texts -/

/-- A number, a truth or a text, in memory. -/
def V.val : V → Value
  | .bool b => .bool b
  | .int k n => .int k n
  | .str s => .string s
  | _ => Go.undef

theorem rel_val {x : V} (h : x.flatCell = true) : rel F μ x x.val := by
  cases x <;> simp [V.flatCell] at h <;> simp [rel, V.val]

theorem run_intOp {op : BinOp} {k : IntKind} {a b : Int} {x : V} (h : intOp op k a b = some x) {t : TypeId} :
    (binOp op t (.int k a) (.int k b)).run P w = .ok x.val w ∧ x.flatCell = true := by
  cases op <;> simp only [intOp, reduceCtorEq] at h
  case quo =>
    split at h
    · cases h
    · rename_i h0; cases h; exact ⟨by simp [binOp, Op.intDiv, h0, V.val], rfl⟩
  case rem =>
    split at h
    · cases h
    · rename_i h0; cases h; exact ⟨by simp [binOp, Op.intDiv, h0, V.val], rfl⟩
  all_goals
    cases h
    exact ⟨by simp [binOp, Op.intArith, Op.intBits, Op.intCmp, V.val], rfl⟩

theorem run_shiftOp {op : BinOp} {k k' : IntKind} {a b : Int} {x : V} (h : shiftOp op k a b = some x) {t : TypeId} :
    (binOp op t (.int k a) (.int k' b)).run P w = .ok x.val w ∧ x.flatCell = true := by
  cases op <;> simp only [shiftOp, reduceCtorEq] at h
  all_goals
    split at h
    · cases h
    · rename_i h0
      cases h
      refine ⟨?_, rfl⟩
      simp only [binOp, Op.shift, h0, if_false, V.val]
      first | rfl | (have : Nat.min b.toNat k.bits = min b.toNat k.bits := rfl; simp [this])

theorem run_strOp {op : BinOp} {a b : ByteArray} {x : V} (h : strOp op a b = some x) {t : TypeId} :
    (binOp op t (.string a) (.string b)).run P w = .ok x.val w ∧ x.flatCell = true := by
  cases op <;> simp only [strOp, reduceCtorEq] at h
  case add =>
    split at h
    · rename_i h0
      cases h
      refine ⟨?_, rfl⟩
      have : ¬ (((a.size + b.size : Nat) : Int) > IntKind.i64.max) := by
        have : IntKind.i64.max = 9223372036854775807 := by decide
        omega
      simp only [binOp, Op.stringOp, this, if_false, Sem.run_pure, V.val]
    · cases h
  all_goals (cases h; exact ⟨by simp [binOp, Op.stringOp, V.val], rfl⟩)

theorem eqGuard_plain {op : BinOp} {t : TypeId} {x y : Operand} {a b : Value} (h1 : a ≠ .nilIface) (h2 : ∀ c, a ≠ .agg c) : (eqGuard op t x y a b).run P w = .ok () w := by
  unfold eqGuard
  cases a <;> cases b <;> first | exact absurd rfl h1 | exact absurd rfl (h2 _) | (cases op <;> simp)

def TK.fits (P : Program) (t : TypeId) : TK → Prop
  | .num => True
  | .bool => P.underlying t = some .bool
  | .ptr => ∃ e, P.underlying t = some (.pointer e)
  | .slc => ∃ e, P.underlying t = some (.slice e)
  | .map => ∃ k e, P.underlying t = some (.map k e)
  | .func => ∃ a b c, P.underlying t = some (.func a b c)

theorem run_isNil {tk : TK} {t : TypeId} {x y : V} {u v : Value} {r : Bool} (hx : rel F μ x u) (hy : rel F μ y v) (h : isNil tk x y = some r) (ht : tk.fits P t) (d : Nat) :
    (Op.equalIn (d + 1) t u v).run P w = .ok r w ∧ u ≠ .nilIface ∧ (∀ c, u ≠ .agg c) ∧ (∀ k n, u ≠ .int k n) ∧ (∀ s, u ≠ .string s) ∧ (∀ k n, u ≠ .float k n) ∧ (∀ k m n, u ≠ .complex k m n) := by
  unfold isNil at h
  split at h <;> simp only [TK.fits] at ht <;> (try cases h; done)
  case h_1 | h_2 | h_3 | h_4 | h_5 =>
    obtain ⟨e, ht⟩ := ht
    cases h
    simp only [rel] at hx hy
    first
      | (subst hx hy; refine ⟨?_, by simp, by simp, by simp, by simp, by simp, by simp⟩; simp [Op.equalIn, run_underlying ht]; done)
      | (subst hx; obtain ⟨b, _, rfl⟩ := hy; refine ⟨?_, by simp, by simp, by simp, by simp, by simp, by simp⟩; simp [Op.equalIn, run_underlying ht]; done)
      | (subst hy; obtain ⟨b, _, rfl⟩ := hx; refine ⟨?_, by simp, by simp, by simp, by simp, by simp, by simp⟩; simp [Op.equalIn, run_underlying ht]; done)
      | (subst hx; obtain ⟨b, o, rfl, _⟩ := hy; refine ⟨?_, by simp, by simp, by simp, by simp, by simp, by simp⟩; simp [Op.equalIn, run_underlying ht]; done)
      | (subst hy; obtain ⟨b, o, rfl, _⟩ := hx; refine ⟨?_, by simp, by simp, by simp, by simp, by simp, by simp⟩; simp [Op.equalIn, run_underlying ht]; done)
  case h_6 =>
    obtain ⟨e, ht⟩ := ht
    cases h
    simp only [rel] at hx hy
    subst hx hy; refine ⟨?_, by simp, by simp, by simp, by simp, by simp, by simp⟩; simp [Op.equalIn, run_underlying ht]
  case h_7 =>
    obtain ⟨e, ht⟩ := ht
    split at h
    · cases h
    · rename_i hne
      cases h
      simp only [rel] at hx hy
      obtain ⟨base, cap, rfl, hb, hnn⟩ := hy
      subst hx
      cases base with
      | none => rw [hb.1] at hne; simp at hne; subst hne; exact absurd hnn.2 (by simp)
      | some a => refine ⟨?_, by simp, by simp, by simp, by simp, by simp, by simp⟩; simp [Op.equalIn, run_underlying ht]
  case h_8 =>
    obtain ⟨e, ht⟩ := ht
    split at h
    · cases h
    · rename_i hne
      cases h
      simp only [rel] at hx hy
      obtain ⟨base, cap, rfl, hb, hnn⟩ := hx
      subst hy
      cases base with
      | none => rw [hb.1] at hne; simp at hne; subst hne; exact absurd hnn.2 (by simp)
      | some a => refine ⟨?_, by simp, by simp, by simp, by simp, by simp, by simp⟩; simp [Op.equalIn, run_underlying ht]
  case h_9 | h_10 | h_11 =>
    obtain ⟨k, e, ht⟩ := ht
    cases h
    simp only [rel] at hx hy
    first
      | (subst hx hy; refine ⟨?_, by simp, by simp, by simp, by simp, by simp, by simp⟩; simp [Op.equalIn, run_underlying ht]; done)
      | (subst hx; obtain ⟨b, _, rfl⟩ := hy; refine ⟨?_, by simp, by simp, by simp, by simp, by simp, by simp⟩; simp [Op.equalIn, run_underlying ht]; done)
      | (subst hy; obtain ⟨b, _, rfl⟩ := hx; refine ⟨?_, by simp, by simp, by simp, by simp, by simp, by simp⟩; simp [Op.equalIn, run_underlying ht]; done)
  case h_12 | h_13 | h_14 =>
    obtain ⟨p, q, e, ht⟩ := ht
    cases h
    simp only [rel] at hx hy
    first
      | (subst hx hy; refine ⟨?_, by simp, by simp, by simp, by simp, by simp, by simp⟩; simp [Op.equalIn, run_underlying ht]; done)
      | (subst hx; obtain ⟨b, c, rfl, _⟩ := hy; refine ⟨?_, by simp, by simp, by simp, by simp, by simp, by simp⟩; simp [Op.equalIn, run_underlying ht]; done)
      | (subst hy; obtain ⟨b, c, rfl, _⟩ := hx; refine ⟨?_, by simp, by simp, by simp, by simp, by simp, by simp⟩; simp [Op.equalIn, run_underlying ht]; done)

theorem run_equal_bool {t : TypeId} {a b : Bool} (ht : P.underlying t = some .bool) : (Op.equal t (.bool a) (.bool b)).run P w = .ok (a == b) w := by
  have : ∀ d, (Op.equalIn (d + 1) t (.bool a) (.bool b)).run P w = .ok (a == b) w := fun d => by simp [Op.equalIn, run_underlying ht]
  exact this 9999

theorem run_binV {tk : TK} {op : BinOp} {t : TypeId} {ox oy : Operand} {x y z : V} {u v : Value} (hx : rel F μ x u) (hy : rel F μ y v) (h : binV tk op x y = some z) (ht : tk.fits P t) :
    (do eqGuard op t ox oy u v; binOp op t u v : Sem Value).run P w = .ok z.val w ∧ z.flatCell = true := by
  unfold binV at h
  split at h
  · simp only [rel] at hx hy
    subst hx hy
    simp only [Sem.run_bind, eqGuard_plain (a := .int _ _) (by simp) (by simp), Result.andThen_ok]
    split at h
    · exact run_shiftOp h
    · split at h
      · rename_i hk; subst hk; exact run_intOp h
      · cases h
  · simp only [rel] at hx hy
    subst hx hy
    simp only [Sem.run_bind, eqGuard_plain (a := .string _) (by simp) (by simp), Result.andThen_ok]
    exact run_strOp h
  · cases h
  · simp only [rel] at hx hy
    subst hx hy
    simp only [Sem.run_bind, eqGuard_plain (a := .bool _) (by simp) (by simp), Result.andThen_ok]
    simp only [TK.fits] at ht
    cases op <;> simp only [boolOp, reduceCtorEq] at h <;> cases h <;>
      exact ⟨by simp [binOp, run_equal_bool ht, V.val], rfl⟩
  · cases h
  · split at h
    · rename_i r hr
      cases h
      obtain ⟨h1, h2, h3, h4, h5, h6, h7⟩ := run_isNil (P := P) (w := w) (t := t) hx hy hr ht 9999
      have h1 : (Op.equal t u v).run P w = .ok r w := h1
      simp only [Sem.run_bind, eqGuard_plain h2 h3, Result.andThen_ok]
      refine ⟨?_, rfl⟩
      cases u <;> first | exact absurd rfl (h4 _ _) | exact absurd rfl (h5 _) | exact absurd rfl (h6 _ _) | exact absurd rfl (h7 _ _ _) | (simp [binOp, h1, V.val])
    · rename_i r hr
      cases h
      obtain ⟨h1, h2, h3, h4, h5, h6, h7⟩ := run_isNil (P := P) (w := w) (t := t) hx hy hr ht 9999
      have h1 : (Op.equal t u v).run P w = .ok r w := h1
      simp only [Sem.run_bind, eqGuard_plain h2 h3, Result.andThen_ok]
      refine ⟨?_, rfl⟩
      cases u <;> first | exact absurd rfl (h4 _ _) | exact absurd rfl (h5 _) | exact absurd rfl (h6 _ _) | exact absurd rfl (h7 _ _ _) | (simp [binOp, h1, V.val])
    · cases h

end
end Go.Ev

namespace Go.Ev
open Go
section
variable {P : Program} {w : World} {F : Frz} {μ : Mu} {σ : Store}

theorem eqCells_split : ∀ (k : Nat) {xs ys : List V} {r : Bool}, eqCells xs ys = some r → k ≤ xs.length →
    (eqCells (xs.take k) (ys.take k) = some false ∧ r = false) ∨ (eqCells (xs.take k) (ys.take k) = some true ∧ eqCells (xs.drop k) (ys.drop k) = some r)
  | 0, xs, ys, r, h, _ => .inr ⟨by simp [eqCells], by simpa using h⟩
  | k + 1, [], _, _, _, hk => by simp at hk
  | k + 1, x :: xs, [], r, h, _ => by simp [eqCells] at h
  | k + 1, x :: xs, y :: ys, r, h, hk => by
    simp only [eqCells] at h
    simp only [List.take_succ_cons, List.drop_succ_cons, eqCells]
    split at h
    · exact eqCells_split k h (by simpa using hk)
    · cases h
      exact .inl ⟨rfl, rfl⟩
    · cases h

/-- A value out of its cells. -/
def mkv (P : Program) (t : TypeId) (us : List Value) : Value := if aggT P t then .agg us.toArray else us.headD Go.undef

theorem run_part {t : TypeId} {n off : Nat} {us : List Value} (ht : sizeT P t = some n) (h1 : aggT P t = false → n = 1) (hl : off + n ≤ us.length) :
    (part t us.toArray off).run P w = .ok (mkv P t ((us.drop off).take n)) w := by
  unfold part mkv
  rw [Sem.run_bind, run_isAgg ht]
  cases hg : aggT P t with
  | true =>
    rw [Result.andThen_ok]
    simp only [if_true, Sem.run_bind, run_sizeOf' ht, Result.andThen_ok]
    simp only [Sem.run_pure, Result.ok.injEq, Value.agg.injEq, and_true]
    apply Array.ext'
    simp [List.extract_eq_take_drop]
  | false =>
    have := h1 hg
    subst this
    have hlt : off < us.length := by omega
    simp only [Bool.false_eq_true, if_false]
    rw [Result.andThen_ok]
    rw [List.drop_eq_getElem_cons hlt]
    simp only [List.getElem?_toArray, List.getElem?_eq_getElem hlt, Sem.run_pure, List.take_succ_cons, List.headD_cons, Bool.false_eq_true, if_false]

theorem flatEq_size : ∀ {n : Nat} {t : TypeId}, flatEq P n t = true → ∃ m, sizeT P t = some m
  | 0, _, h => by simp [flatEq] at h
  | n + 1, t, h => by
    unfold sizeT
    unfold flatEq at h
    cases hu : P.underlying t with
    | none => simp [hu] at h
    | some d =>
      simp only [Option.isSome_some, if_true]
      have : ∃ i, P.info? t = some i := by
        unfold Program.underlying at hu
        cases hi : P.info? t with
        | none => simp [hi] at hu
        | some i => exact ⟨i, rfl⟩
      obtain ⟨i, hi⟩ := this
      exact ⟨i.size, by simp [hi]⟩

def EqOK (P : Program) (F : Frz) (μ : Mu) (w : World) (d : Nat) (t : TypeId) (m : Nat) : Prop :=
  ∀ (xs ys : List V) (us vs : List Value) (r : Bool), rels F μ xs us → rels F μ ys vs → xs.length = m → ys.length = m → eqCells xs ys = some r → (Op.equalIn d t (mkv P t us) (mkv P t vs)).run P w = .ok r w

theorem eqCells_length : ∀ {xs ys : List V}, eqCells xs ys = some true → xs.length = ys.length
  | [], [], _ => rfl
  | [], _ :: _, h => by simp [eqCells] at h
  | _ :: _, [], h => by simp [eqCells] at h
  | x :: xs, y :: ys, h => by
    simp only [eqCells] at h
    split at h
    · simp [eqCells_length h]
    · cases h
    · cases h

theorem run_eqItems {d : Nat} {e : TypeId} {m : Nat} (he : sizeT P e = some m) (h1 : aggT P e = false → m = 1) (IH : EqOK P F μ w d e m) {us vs : List Value} {xs ys : List V} (hx : rels F μ xs us) (hy : rels F μ ys vs) :
    ∀ (n i : Nat) {r : Bool}, (i + n) * m ≤ xs.length → (i + n) * m ≤ ys.length → eqCells ((xs.drop (i * m)).take (n * m)) ((ys.drop (i * m)).take (n * m)) = some r →
      (Op.eqItems d e m us.toArray vs.toArray (List.range' i n)).run P w = .ok r w
  | 0, i, r, _, _, h => by simp [eqCells] at h; subst h; simp [Op.eqItems]
  | n + 1, i, r, hl, hl', h => by
    have e1 : (i + (n + 1)) * m = i * m + m + n * m := by rw [Nat.add_mul, Nat.add_mul, Nat.one_mul]; omega
    have e2 : (n + 1) * m = m + n * m := by rw [Nat.add_mul, Nat.one_mul]; omega
    have e3 : (i + 1) * m = i * m + m := by rw [Nat.add_mul, Nat.one_mul]
    have lx := rels_length hx
    have ly := rels_length hy
    have p1 := run_part (P := P) (w := w) he h1 (off := i * m) (us := us) (by omega)
    have p2 := run_part (P := P) (w := w) he h1 (off := i * m) (us := vs) (by omega)
    simp only [List.range'_succ, Op.eqItems, Sem.run_bind, p1, p2, Result.andThen_ok]
    rw [e1] at hl hl'
    have hs := eqCells_split m h (by simp; omega)
    have t1 : ∀ (l : List V), ((l.drop (i * m)).take ((n + 1) * m)).take m = (l.drop (i * m)).take m := fun l => by rw [List.take_take]; congr 1; omega
    have t2 : ∀ (l : List V), ((l.drop (i * m)).take ((n + 1) * m)).drop m = (l.drop ((i + 1) * m)).take (n * m) := fun l => by
      rw [List.drop_take, List.drop_drop]; congr 1
      · omega
      · rw [e3]
    rw [t1, t1, t2, t2] at hs
    rcases hs with ⟨hf, rfl⟩ | ⟨ht, hr⟩
    · have := IH _ _ _ _ _ (rels_take m (rels_drop (i * m) hx)) (rels_take m (rels_drop (i * m) hy)) (by simp; omega) (by simp; omega) hf
      simp [this]
    · have := IH _ _ _ _ _ (rels_take m (rels_drop (i * m) hx)) (rels_take m (rels_drop (i * m) hy)) (by simp; omega) (by simp; omega) ht
      simp only [this, Result.andThen_ok, Bool.not_true, Bool.false_eq_true, if_false]
      exact run_eqItems he h1 IH hx hy n (i + 1) (by rw [show (i + 1 + n) * m = i * m + m + n * m from by rw [Nat.add_mul, e3]]; omega) (by rw [show (i + 1 + n) * m = i * m + m + n * m from by rw [Nat.add_mul, e3]]; omega) hr

theorem run_eqFields' {d : Nat} {us vs : List Value} {xs ys : List V} (hx : rels F μ xs us) (hy : rels F μ ys vs) (hxy : xs.length = ys.length) :
    ∀ (fs : List Field) (o : Nat) {r : Bool}, (∀ f ∈ fs, f.name ≠ "_" ∧ ∃ m, sizeT P f.type = some m ∧ (aggT P f.type = false → m = 1) ∧ EqOK P F μ w d f.type m) → flatEq.contig P o fs = true →
      o + (fs.map fun f => (sizeT P f.type).getD 0).sum = xs.length → eqCells (xs.drop o) (ys.drop o) = some r → (Op.eqFields d us.toArray vs.toArray fs).run P w = .ok r w
  | [], o, r, _, _, hl, h => by
    simp at hl; subst hl
    have : ys.drop xs.length = [] := by rw [hxy]; simp
    rw [this] at h
    simp [eqCells] at h; subst h; simp [Op.eqFields]
  | f :: fs, o, r, hall, hc, hl, h => by
    obtain ⟨hn, m, hm, h1, IH⟩ := hall f (by simp)
    simp only [flatEq.contig, Bool.and_eq_true, beq_iff_eq] at hc
    obtain ⟨ho, hc⟩ := hc
    rw [hm, Option.getD_some] at hc
    simp only [List.map_cons, List.sum_cons, hm, Option.getD_some] at hl
    have lx := rels_length hx
    have ly := rels_length hy
    have p1 := run_part (P := P) (w := w) hm h1 (off := o) (us := us) (by omega)
    have p2 := run_part (P := P) (w := w) hm h1 (off := o) (us := vs) (by omega)
    simp only [Op.eqFields, hn, ne_eq, not_false_eq_true, if_true, Sem.run_bind, ho, p1, p2, Result.andThen_ok]
    have hs := eqCells_split m h (by simp; omega)
    rw [List.drop_drop, List.drop_drop] at hs
    rcases hs with ⟨hf, rfl⟩ | ⟨ht, hr⟩
    · have := IH _ _ _ _ _ (rels_take m (rels_drop o hx)) (rels_take m (rels_drop o hy)) (by simp; omega) (by simp; omega) hf
      simp [this]
    · have := IH _ _ _ _ _ (rels_take m (rels_drop o hx)) (rels_take m (rels_drop o hy)) (by simp; omega) (by simp; omega) ht
      simp only [this, Result.andThen_ok, Bool.not_true, Bool.false_eq_true, if_false]
      exact run_eqFields' hx hy hxy fs (o + m) (fun g hg => hall g (by simp [hg])) hc (by omega) hr

theorem eqCells_one {x y : V} {r : Bool} {u v : Value} (h : eqCells [x] [y] = some r) (hx : rel F μ x u) (hy : rel F μ y v) :
    ∃ k a b, u = .int k a ∧ v = .int k b ∧ r = (a == b) := by
  have h' : eqCell x y = some r := by
    simp only [eqCells] at h
    split at h
    · rename_i he; simp at h; subst h; exact he
    · rename_i he; simp at h; subst h; exact he
    · cases h
  unfold eqCell at h'
  split at h'
  · simp only [rel] at hx hy; subst hx hy
    split at h'
    · rename_i hk; subst hk; cases h'; exact ⟨_, _, _, rfl, rfl, rfl⟩
    · cases h'
  · cases h'

theorem flatEq_agg {n : Nat} {t : TypeId} {m : Nat} (h : flatEq P n t = true) (hm : sizeT P t = some m) : aggT P t = false → m = 1 := by
  intro hg
  cases n with
  | zero => simp [flatEq] at h
  | succ n =>
    unfold flatEq at h
    unfold aggT at hg
    split at h
    · simp at h; rw [hm] at h; cases h; rfl
    · rename_i hu; simp [hu] at hg
    · rename_i hu; simp [hu] at hg
    · cases h

theorem run_equalIn_flat : ∀ (n : Nat) (t : TypeId) (m : Nat), flatEq P n t = true → sizeT P t = some m → ∀ d, EqOK P F μ w (d + n) t m
  | 0, _, _, h, _, _ => by simp [flatEq] at h
  | n + 1, t, m, h, hm, d => by
    intro xs ys us vs r hx hy lx ly he
    have h0 := h
    unfold flatEq at h
    unfold mkv
    split at h
    · rename_i k hu
      have hg : aggT P t = false := by simp [aggT, hu]
      have := flatEq_agg h0 hm hg
      subst this
      simp only [hg, Bool.false_eq_true, if_false]
      obtain ⟨x, rfl⟩ := List.length_eq_one_iff.1 lx
      obtain ⟨y, rfl⟩ := List.length_eq_one_iff.1 ly
      simp only [rels] at hx hy
      obtain ⟨u, _, rfl, hu', rfl⟩ := hx
      obtain ⟨v, _, rfl, hv', rfl⟩ := hy
      obtain ⟨k', a, b, rfl, rfl, rfl⟩ := eqCells_one he hu' hv'
      exact run_equalIn_int w (d + n) t k' _ a b hu
    · rename_i len e hu
      have hg : aggT P t = true := by simp [aggT, hu]
      simp only [hg, if_true]
      simp only [Bool.and_eq_true, beq_iff_eq] at h
      obtain ⟨he', hsz⟩ := h
      obtain ⟨m', hm'⟩ := flatEq_size he'
      rw [hm, hm'] at hsz
      simp at hsz
      subst hsz
      obtain ⟨i, _, hi, hi', _⟩ := sizeT_info hm'
      rw [show d + (n + 1) = (d + n) + 1 from rfl, run_equalIn_array w (d + n) _ _ hu hi]
      have hc : P.cellsOf e = m' := by simp [Program.cellsOf, hi, hi']
      rw [hc, List.range_eq_range']
      exact run_eqItems hm' (flatEq_agg he' hm') (run_equalIn_flat n e m' he' hm' d) hx hy len 0 (by rw [Nat.zero_add]; omega) (by rw [Nat.zero_add]; omega) (by
        simp only [Nat.zero_mul, List.drop_zero]
        rw [List.take_of_length_le (by omega), List.take_of_length_le (by omega)]; exact he)
    · rename_i fs hu
      have hg : aggT P t = true := by simp [aggT, hu]
      simp only [hg, if_true]
      simp only [Bool.and_eq_true, beq_iff_eq, Bool.not_eq_true', List.all_eq_true, bne_iff_ne, ne_eq] at h
      obtain ⟨⟨⟨hs, hall⟩, hc⟩, hsz⟩ := h
      rw [hm] at hsz
      simp at hsz
      have hfs : P.fieldsOf t = fs := by simp [Program.fieldsOf, hu]
      rw [show d + (n + 1) = (d + n) + 1 from rfl, run_equalIn_struct w (d + n) t _ _ (by rw [hfs]; exact hu) hs, hfs]
      exact run_eqFields' hx hy (by omega) fs.toList 0 (fun f hf => by
        obtain ⟨h1, h2⟩ := hall f hf
        obtain ⟨m', hm'⟩ := flatEq_size h2
        exact ⟨h1, m', hm', flatEq_agg h2 hm', run_equalIn_flat n f.type m' h2 hm' d⟩) hc (by simp; omega) (by simpa using he)
    · cases h

end
end Go.Ev

namespace Go.Ev
open Go
section
variable {P : Program} {w : World} {F : Frz} {μ : Mu} {σ : Store}

theorem ofOpt_run {x : Option V} {a : Ans} {l rd : List Key} (h : ((ofOpt x).bind Act.just).run σ l = some (a, rd)) : ∃ v, x = some v ∧ a = ⟨v, []⟩ := by
  cases x with
  | none => simp [ofOpt, Act.bind, Act.run] at h
  | some v => exact ⟨v, rfl, just_run h⟩

theorem good_nilCheck {x : V} {u : Value} {a : Ans} {l rd : List Key}
    (hr : (match x with
      | .ptr k off => Act.just (.ptr k off)
      | .elem cs => Act.just (.elem cs)
      | .func fn first captured => match fn with
        | .func _ => Act.just (.func fn first captured)
        | _ => .fail
      | .rptr k off => .get k fun o => if o.rowCells.isSome = true then Act.just (.rptr k off) else .fail
      | _ => .fail : Act Ans).run σ l = some (a, rd)) (hx : rel F μ x u) : a = ⟨x, []⟩ ∧ ((∃ b, u = .pointer (some b)) ∨ ∃ f p q, u = .func (.func f) p q) := by
  by_cases hx' : ∃ k off, x = .rptr k off
  · obtain ⟨k, off, rfl⟩ := hx'
    simp only [rel] at hx
    obtain ⟨⟨b, rfl⟩, _⟩ := hx
    obtain ⟨o, ho, hr⟩ := get_run hr
    split at hr
    · exact ⟨just_run hr, .inl ⟨_, rfl⟩⟩
    · exact (fail_run hr).elim
  cases x <;> simp only [Act.run, reduceCtorEq] at hr
  case ptr k off =>
    simp only [rel] at hx
    obtain ⟨b, _, rfl⟩ := hx
    exact ⟨just_run hr, .inl ⟨_, rfl⟩⟩
  case rptr k off => exact absurd ⟨k, off, rfl⟩ hx'
  case elem cs =>
    simp only [rel] at hx
    obtain ⟨b, o, rfl, _⟩ := hx
    exact ⟨just_run hr, .inl ⟨_, rfl⟩⟩
  case func fn f c =>
    simp only [rel] at hx
    obtain ⟨f', c', rfl, _⟩ := hx
    cases fn <;> simp only [Act.run, reduceCtorEq] at hr
    exact ⟨just_run hr, .inr ⟨_, _, _, rfl⟩⟩

theorem good_un {op : UnOp} {x z : V} {u : Value} (hx : rel F μ x u) (h : unV op x = some z) : (Op.unary op u).run P w = .ok z.val w ∧ z.flatCell = true := by
  unfold unV at h
  split at h <;> first | (cases h; done) | skip
  all_goals
    cases h
    simp only [rel] at hx
    subst hx
    exact ⟨by simp [Op.unary, Op.intArith, Op.intBits, V.val], rfl⟩

theorem rel_fieldAddr_elem {off : Nat} {cs : List V} {u : Value} (hx : rel F μ (.elem cs) u) : ∃ b o, u = .pointer (some ⟨b, o, none⟩) ∧ rel F μ (.elem (cs.drop off)) (.pointer (some ⟨b, o + off, none⟩)) := by
  simp only [rel] at hx
  obtain ⟨b, o, rfl, hc⟩ := hx
  exact ⟨b, o, rfl, by simp only [rel]; exact ⟨b, o + off, rfl, frz_drop hc⟩⟩

theorem run_fieldAt {t : TypeId} {f n b o : Nat} {fd : Field} (hf : fieldT P t f = some fd) (hn : sizeT P fd.type = some n) (h0 : n ≠ 0) :
    (Instr.fieldAt t (.pointer (some ⟨b, o, none⟩)) f).run P w = .ok (.pointer (some ⟨b, o + fd.offset, none⟩)) w := by
  unfold fieldT at hf
  split at hf
  · rename_i fs hu
    simp only [Instr.fieldAt, Sem.run_bind, run_underlying hu, Result.andThen_ok, hf, Instr.sureAddr, Sem.run_pure, fieldPlace, run_sizeOf' hn, h0, if_false, addr_add]
  · cases hf

theorem run_field {t : TypeId} {f n : Nat} {fd : Field} {us : List Value} (hf : fieldT P t f = some fd) (hn : sizeT P fd.type = some n) (h1 : aggT P fd.type = false → n = 1) (hl : fd.offset + n ≤ us.length) :
    (Instr.field t (.agg us.toArray) f).run P w = .ok (mkv P fd.type ((us.drop fd.offset).take n)) w := by
  unfold fieldT at hf
  split at hf
  · rename_i fs hu
    simp only [Instr.field, Sem.run_bind, run_underlying hu, Result.andThen_ok, hf, asAgg, Sem.run_pure, run_part hn h1 hl]
  · cases hf

theorem run_indexAt_slice' {t e : TypeId} {n b o len cap : Nat} {k : IntKind} {i : Int} (hu : P.underlying t = some (.slice e)) (hn : sizeT P e = some n) (h0 : 0 ≤ i) (hi : i < len) :
    (Instr.indexAt t (.slice (some ⟨b, o, none⟩) len cap) (.int k i)).run P w = .ok (.pointer (some ⟨b, o + i.toNat * n, none⟩)) w := by
  simp [Instr.indexAt, asIntOf, run_underlying hu, h0, hi, run_sizeOf' hn, addr_add]

theorem run_indexAt_array' {t e : TypeId} {n b o len : Nat} {k : IntKind} {i : Int} (hu : P.underlying t = some (.array len e)) (hn : sizeT P e = some n) (h0 : 0 ≤ i) (hi : i < len) :
    (Instr.indexAt t (.pointer (some ⟨b, o, none⟩)) (.int k i)).run P w = .ok (.pointer (some ⟨b, o + i.toNat * n, none⟩)) w := by
  simp [Instr.indexAt, asIntOf, run_underlying hu, h0, hi, run_sizeOf' hn, addr_add, Instr.sureAddr]


/-! ### cuts -/
def optRel (F : Frz) (μ : Mu) : Option V → Option Value → Prop
  | none, none => True
  | some x, some u => rel F μ x u
  | _, _ => False

theorem intArg_rel' {x : Option V} {u : Option Value} {r : Option Int} (h : intArg x = some r) (hx : optRel F μ x u) : (r = none ∧ u = none) ∨ ∃ n k, r = some n ∧ u = some (.int k n) := by
  cases x with
  | none => cases u with
    | none => simp [intArg] at h; exact .inl ⟨h.symm, rfl⟩
    | some u => exact hx.elim
  | some x => cases u with
    | none => exact hx.elim
    | some u =>
      cases x <;> simp only [intArg, reduceCtorEq, Option.some.injEq] at h
      subst h
      simp only [optRel, rel] at hx
      subst hx
      exact .inr ⟨_, _, rfl, rfl⟩

theorem run_sliceBound {k : IntKind} {i : Int} {y : Nat} {c : BoundsCode} (h0 : 0 ≤ i) (h1 : i ≤ y) : (Instr.sliceBound (.int k i) y c).run P w = .ok i.toNat w := by
  simp [Instr.sliceBound, asIntOf, h0, h1]

theorem run_cut {isS : Bool} {len cap : Nat} {lo hi mx : Option V} {ulo uhi umx : Option Value} {l h : Nat} {m : Option Nat} (hc : cut len lo hi mx = some (l, h, m)) (hle : len ≤ cap)
    (h1 : optRel F μ lo ulo) (h2 : optRel F μ hi uhi) (h3 : optRel F μ mx umx) : (Instr.sliceBounds isS len cap ulo uhi umx).run P w = .ok (l, h, m.getD cap) w ∧ l ≤ h ∧ h ≤ len ∧ (∀ x, m = some x → h ≤ x ∧ x ≤ len) := by
  unfold cut at hc
  split at hc
  · rename_i a b c ha hb hcx
    unfold cutAt at hc
    split at hc
    · rename_i hb3
      obtain ⟨g1, g2, g3⟩ := hb3
      rcases intArg_rel' ha h1 with ⟨rfl, rfl⟩ | ⟨n1, k1, rfl, rfl⟩ <;> rcases intArg_rel' hb h2 with ⟨rfl, rfl⟩ | ⟨n2, k2, rfl, rfl⟩ <;> rcases intArg_rel' hcx h3 with ⟨rfl, rfl⟩ | ⟨n3, k3, rfl, rfl⟩ <;>
        simp only [Option.getD_some, Option.getD_none, Option.isSome_some, Option.isSome_none, Bool.false_eq_true, false_and, true_and, if_false] at g1 g2 g3 hc
      all_goals first | (cases hc; done) | skip
      · cases hc
        refine ⟨?_, by omega, by omega, by simp⟩
        simp [Instr.sliceBounds]
      · cases hc
        refine ⟨?_, by omega, by omega, by simp⟩
        have hb2 : n2 ≤ (cap : Int) := by omega
        simp only [Instr.sliceBounds, Sem.run_bind, Sem.run_pure, Result.andThen_ok, run_sliceBound (k := k2) (i := n2) (y := cap) (by omega) hb2]
        simp
      · split at hc
        · rename_i hm
          cases hc
          refine ⟨?_, by omega, by omega, by intro x hx; cases hx; omega⟩
          have hb2 : n3 ≤ (cap : Int) := by omega
          have hb3 : n2 ≤ (n3.toNat : Int) := by omega
          simp only [Instr.sliceBounds, Sem.run_bind, Sem.run_pure, Result.andThen_ok, run_sliceBound (k := k3) (i := n3) (y := cap) (by omega) hb2, run_sliceBound (k := k2) (i := n2) (y := n3.toNat) (by omega) hb3]
          simp
        · cases hc
      · cases hc
        refine ⟨?_, by omega, by omega, by simp⟩
        have hb1 : n1 ≤ (len : Int) := by omega
        simp only [Instr.sliceBounds, Sem.run_bind, Sem.run_pure, Result.andThen_ok, run_sliceBound (k := k1) (i := n1) (y := len) (by omega) hb1]
        simp
      · cases hc
        refine ⟨?_, by omega, by omega, by simp⟩
        have hb2 : n2 ≤ (cap : Int) := by omega
        have hb1 : n1 ≤ (n2.toNat : Int) := by omega
        simp only [Instr.sliceBounds, Sem.run_bind, Sem.run_pure, Result.andThen_ok, run_sliceBound (k := k2) (i := n2) (y := cap) (by omega) hb2, run_sliceBound (k := k1) (i := n1) (y := n2.toNat) (by omega) hb1]
        simp
      · split at hc
        · rename_i hm
          cases hc
          refine ⟨?_, by omega, by omega, by intro x hx; cases hx; omega⟩
          have hb2 : n3 ≤ (cap : Int) := by omega
          have hb3 : n2 ≤ (n3.toNat : Int) := by omega
          have hb1 : n1 ≤ (n2.toNat : Int) := by omega
          simp only [Instr.sliceBounds, Sem.run_bind, Sem.run_pure, Result.andThen_ok, run_sliceBound (k := k3) (i := n3) (y := cap) (by omega) hb2, run_sliceBound (k := k2) (i := n2) (y := n3.toNat) (by omega) hb3, run_sliceBound (k := k1) (i := n1) (y := n2.toNat) (by omega) hb1]
          simp
        · cases hc
    · cases hc
  · cases hc

end
end Go.Ev
