/-
  Appending, on plain values and in memory.
-/
import Derived.Test.YtiiohfojejfolaaDoorEv10
set_option linter.unusedVariables false
set_option linter.unusedSimpArgs false
namespace Go.Ev
open Go
section
variable {P : Program} {w : World} {F : Frz} {μ : Mu} {σ : Store}

def notInt : TypeDesc → Prop
  | .int _ => False
  | _ => True

theorem run_append_fits {t t' ty e : TypeId} {d : TypeDesc} {m n len cap : Nat} {base : Option Addr} {u : Value} {cells : Array Value} (hu : P.underlying t = some (.slice e)) (hu' : P.underlying t' = some d) (hd : notInt d)
    (hs : sizeT P e = some m) (hx : (Builtin.lenOf u).run P w = .ok n w) (hc : (Builtin.firstCells m n u).run P w = .ok cells w) (hle : len + n ≤ cap) :
    (Builtin.append_ #[t, t'] ty #[.slice base len cap, u]).run P w =
      (((match base with | some a => storeCells (a.add (len * m)) cells.toList | none => pure ()) : Sem Unit).run P w).andThen fun _ w' => .ok (.slice base (len + n) cap) w' := by
  have hz : (match d with | .int _ => true | _ => false) = false := by cases d <;> first | rfl | exact hd.elim
  unfold Builtin.append_
  simp only [List.getElem?_toArray, List.getElem?_cons_zero, List.getElem?_cons_succ, Sem.run_bind, run_underlying hu, run_underlying hu', Result.andThen_ok, run_sizeOf' hs, Sem.run_pure]
  cases d <;> first | exact hd.elim | skip
  all_goals
    simp only [hx, Result.andThen_ok, Bool.false_eq_true, if_false, hle, if_true, Sem.run_bind, Bool.not_false, hc, Sem.run_pure]
    cases base <;> simp

theorem run_append_grows {t t' ty e : TypeId} {d : TypeDesc} {m n by_ len cap : Nat} {base : Option Addr} {u : Value} {old cells : Array Value} (hu : P.underlying t = some (.slice e)) (hu' : P.underlying t' = some d) (hd : notInt d)
    (hs : sizeT P e = some m) (hb : bytesT P e = some by_) (hz : zeroSize P e = some m) (hx : (Builtin.lenOf u).run P w = .ok n w)
    (ho : ∀ w' : World, w'.heap = w.heap → (Builtin.firstCells m len (.slice base len cap)).run P w' = .ok old w')
    (hc : ∀ w' : World, w'.heap = w.heap → (Builtin.firstCells m n u).run P w' = .ok cells w') (hgt : ¬ len + n ≤ cap) (hcap : len ≤ cap)
    (hsz : (len + n) * by_ ≤ 1099511627776) (hsz' : len + n ≤ 1099511627776) :
    ∃ (c : Nat) (w' : World) (rest : List Value), len + n ≤ c ∧ (Builtin.append_ #[t, t'] ty #[.slice base len cap, u]).run P w = .ok (.slice (some ⟨w.heap.size, 0, none⟩) (len + n) c) w' ∧
      w'.heap = w.heap.push (.cells (old.toList ++ cells.toList ++ rest).toArray e (0, 0)) ∧ w'.os = w.os ∧ w'.output = w.output ∧ rest.length = (c - (len + n)) * m := by
  obtain ⟨i, z, hi, hiz, hzs⟩ := zeroSize_spec hz
  obtain ⟨i', hi', hby⟩ := bytesT_info hb
  rw [hi] at hi'; cases hi'
  have hn1 : Builtin.nextslicecap (len + n) cap ≤ 2 * (len + n) := nextslicecap_le (by omega)
  have hn2 : ¬ Builtin.nextslicecap (len + n) cap * i.bytes > 2 ^ 48 := by
    rw [hby]
    have := Nat.mul_le_mul_right by_ hn1
    have e1 : 2 * (len + n) * by_ = 2 * ((len + n) * by_) := Nat.mul_assoc ..
    omega
  have hn3 : ¬ (((len + n : Nat) : Int) > IntKind.i64.max ∧ i.bytes = 0) := by
    have : IntKind.i64.max = 9223372036854775807 := by decide
    omega
  obtain ⟨c, hc1, hc2⟩ := run_choose_cap (P := P) (w := w) (need := len + n) (old := cap) (e := e) (by omega)
  have ti : ∀ w' : World, (typeInfo e).run P w' = .ok i w' := fun w' => by simp [typeInfo, hi]
  have zv : ∀ w' : World, (zeroValue e).run P w' = .ok z w' := fun w' => by simp [zeroValue, typeInfo, hi, hiz]
  refine ⟨c, { w with drawn := w.drawn + 1, heap := w.heap.push (.cells (old ++ cells ++ Builtin.zeroCells z.cells (c - (len + n))) e) }, (Builtin.zeroCells z.cells (c - (len + n))).toList, hc1, ?_, by
    show w.heap.push _ = w.heap.push _
    congr 2; apply Array.ext'; simp, rfl, rfl, by rw [zeroCells_length, hzs]⟩
  unfold Builtin.append_
  simp only [List.getElem?_toArray, List.getElem?_cons_zero, List.getElem?_cons_succ, Sem.run_bind, run_underlying hu, run_underlying hu', Result.andThen_ok, run_sizeOf' hs, Sem.run_pure]
  have e1 := ho { w with drawn := w.drawn + 1 } rfl
  have e2 := hc { w with drawn := w.drawn + 1 } rfl
  cases d <;> first | exact hd.elim | skip
  all_goals
    simp only [hx, Result.andThen_ok, Bool.false_eq_true, if_false, hgt, Sem.run_bind, Bool.not_false, if_true, ti, false_or, hn3, hn2, hc2, run_askRoom, e1, e2, zv, Sem.run_pure, newRow, run_newObj]

/-- Spare places are left, others are taken in a new block. -/
theorem Post.moveTok (hI : Inv F μ σ w) {k : Key} {h0 h : Hd} {n : Nat} (hk : μ k = some h0) (hle : h0.le h) (hr : objRel F (μ.set k h) w (.tok n) h) (hd : ∀ k' h', k' ≠ k → μ k' = some h' → h.disj h') :
    Inv F (μ.set k h) (σ.put k (.tok n)) w ∧ μ.le (μ.set k h) := by
  have hm : μ.le (μ.set k h) := Mu.le_set fun h' hh => by rw [hk] at hh; cases hh; exact hle
  refine ⟨⟨hI.frozen, fun k' o' hk' => ?_, fun k' h' hk' => ?_, fun k1 k2 h1 h2 hne e1 e2 => ?_⟩, hm⟩
  · rw [Store.get_put] at hk'
    split at hk'
    · rename_i he; subst he; cases hk'; exact ⟨h, Mu.set_same .., hr⟩
    · rename_i he
      obtain ⟨h', h1, h2⟩ := hI.dom1 k' o' hk'
      exact ⟨h', by rw [Mu.set_other (Ne.symm he)]; exact h1, objRel_mono F.le_refl hm h2 (fun _ _ => rfl) (fun _ _ _ _ hq => hq)⟩
  · rw [Store.get_put]
    split
    · exact ⟨_, rfl⟩
    · rename_i he
      rw [Mu.set_other (Ne.symm he)] at hk'
      exact hI.dom2 k' h' hk'
  · by_cases c1 : k1 = k
    · subst c1
      rw [Mu.set_same] at e1; cases e1
      rw [Mu.set_other (Ne.symm hne)] at e2
      exact hd k2 h2 (Ne.symm hne) e2
    · rw [Mu.set_other c1] at e1
      by_cases c2 : k2 = k
      · subst c2
        rw [Mu.set_same] at e2; cases e2
        exact Hd.disj_symm (hd k1 h1 c1 e1)
      · rw [Mu.set_other c2] at e2
        exact hI.apart k1 k2 h1 h2 hne e1 e2

theorem Born.newRow {b p r e n : Nat} (h : w.heap.size ≤ b) : Born μ w (.spare b p r e n) := .inr (.inl h)

/-- The answer of an append that takes a new block. -/
theorem grown {w' : World} {e : TypeId} {m c : Nat} {xs ys : List V} {old new rest : List Value} (hI : Inv F μ σ w) (hm : m ≠ 0)
    (hx : ∀ x ∈ xs, x.cellsOf.length = m) (hy : ∀ y ∈ ys, y.cellsOf.length = m) (ho : rels F noMu (xs.flatMap V.cellsOf) old) (hn : rels F noMu (ys.flatMap V.cellsOf) new)
    (ho1 : ∀ u ∈ old, u.oneCell' = true) (hn1 : ∀ u ∈ new, u.oneCell' = true)
    (hh : w'.heap = w.heap.push (.cells (old ++ new ++ rest).toArray e (0, 0))) (hos : w'.os = w.os) (hou : w'.output = w.output) (hc : xs.length + ys.length ≤ c) (hr : rest.length = (c - (xs.length + ys.length)) * m) :
    ∃ F', Post F μ w F' μ σ w' ∧ frzE F' w.heap.size 0 m (xs ++ ys) ∧
      ∀ (μ' : Mu) (n : Nat), objRel F' μ' w' (.tok n) (.spare w.heap.size ((xs.length + ys.length) * m) (c - (xs.length + ys.length)) m n) := by
  have hp := Post.newRow (F := F) (μ := μ) (σ := σ) (w := w) (w' := w') hI (old ++ new) rest e (0, 0) (fun u hu => by
    rcases List.mem_append.1 hu with h | h
    · exact ho1 u h
    · exact hn1 u h) hh hos hou
  have hl1 := rels_length ho
  have hl2 := rels_length hn
  rw [flatMap_cells_length hx] at hl1
  rw [flatMap_cells_length hy] at hl2
  refine ⟨_, hp, ?_, fun μ' n => ⟨rfl, .inr ⟨Nat.pos_of_ne_zero hm, _, e, push_get hh, ?_, fun off h1 h2 => ?_⟩⟩⟩
  · rw [frzE_iff]
    refine ⟨fun x hx' => ?_, frz_put hp.2.1.le ?_⟩
    · rcases List.mem_append.1 hx' with h | h
      · exact hx x h
      · exact hy x h
    · rw [List.flatMap_append]; exact rels_append ho hn
  · simp only [List.length_append, ← hl1, ← hl2, hr]
    have := Nat.add_mul xs.length ys.length m
    omega
  · cases hq : (F.put w.heap.size 0 (old ++ new)) ⟨w.heap.size, off, none⟩ with
    | none => rfl
    | some u =>
      rcases Frz.put_cases hq with h | ⟨_, _, h3, _⟩
      · have := hI.frz_lt h; simp at this
      · simp only [List.length_append, ← hl1, ← hl2, ← Nat.add_mul] at h3
        simp at h3
        omega

/-- What an append of these cells does where there is room. -/
def AppFits (P : Program) (w : World) (t t' ty : TypeId) (m n : Nat) (u : Value) (cells : Array Value) : Prop :=
  ∀ (base : Option Addr) (len cap : Nat), len + n ≤ cap → (Builtin.append_ #[t, t'] ty #[.slice base len cap, u]).run P w =
      (((match base with | some a => storeCells (a.add (len * m)) cells.toList | none => pure ()) : Sem Unit).run P w).andThen fun _ w' => .ok (.slice base (len + n) cap) w'
/-- And where there is none. -/
def AppGrows (P : Program) (w : World) (t t' ty e : TypeId) (m by_ n : Nat) (u : Value) (cells : Array Value) : Prop :=
  ∀ (base : Option Addr) (len cap : Nat) (old : Array Value), (∀ w' : World, w'.heap = w.heap → (Builtin.firstCells m len (.slice base len cap)).run P w' = .ok old w') → ¬ len + n ≤ cap → len ≤ cap →
    (len + n) * by_ ≤ 1099511627776 → len + n ≤ 1099511627776 →
    ∃ (c : Nat) (w' : World) (rest : List Value), len + n ≤ c ∧ (Builtin.append_ #[t, t'] ty #[.slice base len cap, u]).run P w = .ok (.slice (some ⟨w.heap.size, 0, none⟩) (len + n) c) w' ∧
      w'.heap = w.heap.push (.cells (old.toList ++ cells.toList ++ rest).toArray e (0, 0)) ∧ w'.os = w.os ∧ w'.output = w.output ∧ rest.length = (c - (len + n)) * m

theorem good_append_gen {t t' ty e : TypeId} {m by_ dst : Nat} {s : V} {us u : Value} {ys : List V} {uys : List Value} {a : Ans} {l rd : List Key} (hI : Inv F μ σ w) (h0 : m ≠ 0)
    (hycell : ∀ y ∈ ys, y.cellsOf.length = m) (huys : rels F noMu (ys.flatMap V.cellsOf) uys) (huc : ∀ v ∈ uys, v.oneCell' = true)
    (hfits : AppFits P w t t' ty m ys.length u uys.toArray) (hgrows : AppGrows P w t t' ty e m by_ ys.length u uys.toArray)
    (hxs : rel F μ s us) (hr : (appendTo m by_ dst s ys).run σ l = some (a, rd)) :
    Good P (do pure (.value (← Builtin.append_ #[t, t'] ty #[us, u]))) F μ σ w a := by
  have hlu := rels_length huys
  rw [flatMap_cells_length hycell] at hlu
  have run1 : ∀ {v : Value} {w' : World}, (Builtin.append_ #[t, t'] ty #[us, u]).run P w = .ok v w' → (do pure (Next.value (← Builtin.append_ #[t, t'] ty #[us, u])) : Sem Next).run P w = .ok (.value v) w' := fun h => by
    simp only [Sem.run_bind, h, Result.andThen_ok, Sem.run_pure]
  cases s <;> simp only [appendTo] at hr <;> try (exact (fail_run hr).elim)
  case slc em xs own =>
    split at hr
    · rename_i hc3
      obtain ⟨rfl, hb1, hb2⟩ := hc3
      have hss : (source em (.slc em xs own)).run σ [] = some (xs, []) := by simp [source, Act.run]
      obtain ⟨_, hxcell, uxs, huxs, hfirstx, huxc⟩ := source_run (P := P) hI hxs h0 hss
      have hlx := rels_length huxs
      rw [flatMap_cells_length hxcell] at hlx
      have hxs0 := hxs
      simp only [rel] at hxs
      obtain ⟨base, cap, rfl, hbase, hown⟩ := hxs
      have hcap : xs.length ≤ cap := by
        cases own with
        | none => exact hown
        | nn => exact hown.1
        | tight => exact Nat.le_of_eq (Eq.symm hown)
        | tok k st => exact hown.1
      have hfx : ∀ w' : World, w'.heap = w.heap → (Builtin.firstCells em xs.length (.slice base xs.length cap)).run P w' = .ok uxs.toArray w' := fun w' hw' => by
        rw [hfirstx w' hw' xs.length (Nat.le_refl _), hlx, List.take_length]
      split at hr
      · -- nothing is appended
        rename_i hemp
        have := just_run hr; subst this
        have hys : ys = [] := by simpa using hemp
        subst hys
        have hu0 : uys = [] := by simpa using hlu.symm
        subst hu0
        refine Good.same hI (v := .slice base xs.length cap) (run1 ?_) hxs0
        rw [hfits _ _ _ (by simpa using hcap)]
        cases base <;> simp [storeCells]
      · rename_i hemp
        have hpos : 0 < ys.length := by
          cases ys with
          | nil => simp at hemp
          | cons _ _ => simp
        cases own with
        | none => exact (fail_run hr).elim
        | nn => exact (fail_run hr).elim
        | tight =>
          obtain ⟨hk, hr⟩ := new_run hr
          have := ret_run hr; simp only at this; subst this
          have hcl : cap = xs.length := hown
          obtain ⟨c, w', rest, hc1, hrun, hheap, hos, hou, hrest⟩ := hgrows _ _ _ _ hfx (by omega) hcap hb1 hb2
          obtain ⟨F', hp, hfz, hobj⟩ := grown (e := e) hI h0 hxcell hycell huxs huys huxc huc (by simpa using hheap) hos hou hc1 hrest
          have hnk : μ (.loc dst 0) = none := hI.mu_none hk
          obtain ⟨hI2, hle2⟩ := Post.newTok (w := w') hp.1 hk (h := .spare w.heap.size ((xs.length + ys.length) * em) (c - (xs.length + ys.length)) em (xs.length + ys.length)) (n := xs.length + ys.length)
            (hobj _ _) (Hd.disj_new hI fun b hb => by rcases hb with hb | ⟨_, _, _, _, hb, _⟩ <;> cases hb; exact Nat.le_refl _)
          refine ⟨_, w', F', _, .inl (run1 hrun), ⟨hI2, { hp.2.1 with hd := fun k' h' hk' => ?_ }, Mu.le_trans hp.2.2 hle2⟩, ?_⟩
          · by_cases c' : k' = .loc dst 0
            · subst c'; rw [Mu.set_same] at hk'; cases hk'; exact Born.newRow (Nat.le_refl _)
            · rw [Mu.set_other c'] at hk'; exact hp.2.1.hd k' h' hk'
          · simp only [rel]
            refine ⟨some ⟨w.heap.size, 0, none⟩, c, by simp, ⟨.inr rfl, hfz⟩, by simpa using hc1, _, _, _, _, _, Mu.set_same .., by simp, fun _ => ⟨by simp; omega, ?_⟩⟩
            exact .inr ⟨rfl, 0, rfl, by simp⟩
        | tok k st =>
          obtain ⟨o, ho, hr⟩ := get_run hr
          cases o <;> simp only at hr <;> try (exact (fail_run hr).elim)
          rename_i n
          split at hr
          · rename_i hn
            have := ret_run hr; simp only at this; subst this
            obtain ⟨_, b, pos, r, e', n', hk, hle', hq⟩ := hown
            obtain ⟨h', hk', hobj'⟩ := hI.dom1 k _ ho
            rw [hk] at hk'; cases hk'
            obtain ⟨rfl, hsp⟩ := hobj'
            obtain ⟨hcr, hpos'⟩ := hq hn.symm
            by_cases hfit : ys.length ≤ r
            · -- in place
              have hr0 : r ≠ 0 := by omega
              rcases hpos' with h | ⟨rfl, ob, rfl, hob⟩
              · exact absurd h hr0
              rcases hsp with h | ⟨_, blk, tyb, hw, hl, hnf⟩
              · exact absurd h hr0
              have hm0 : 0 < e' := Nat.pos_of_ne_zero h0
              have hmul : ys.length * e' ≤ r * e' := Nat.mul_le_mul_right e' hfit
              have hst := run_storeCells' (P := P) hw (off := pos) (xs := uys) (by omega) huc
              have hp := Post.useSpare hI hk hfit hpos hm0 hw hl hnf (vs := uys) hlu.symm huc
              refine ⟨.slice (some ⟨b, ob, none⟩) (xs.length + ys.length) cap, _, _, _, .inl (run1 ?_), hp, ?_⟩
              · rw [hfits _ _ _ (by omega)]
                simp only [addr_add, hob, hst, Result.andThen_ok]
              · simp only [rel]
                have hF := hp.2.1.le
                refine ⟨some ⟨b, ob, none⟩, cap, by simp, ⟨.inr rfl, ?_⟩, by simp; omega, b, _, _, _, _, Mu.set_same .., by simp; omega, fun _ => ⟨by simp; omega, ?_⟩⟩
                · rw [frzE_append]
                  refine ⟨frzE_mono hF _ _ _ _ hbase.2, ?_⟩
                  rw [frzE_iff]
                  refine ⟨hycell, ?_⟩
                  have := frz_put hF huys
                  show frz _ b (ob + xs.length * e') _
                  rw [hob]
                  exact this
                · by_cases hz' : r - ys.length = 0
                  · exact .inl hz'
                  · refine .inr ⟨rfl, ob, rfl, ?_⟩
                    simp only [List.length_append, Nat.add_mul]
                    omega
            · -- a new block
              obtain ⟨c, w', rest, hc1, hrun, hheap, hos, hou, hrest⟩ := hgrows _ _ _ _ hfx (by omega) hcap hb1 hb2
              obtain ⟨F', hp, hfz, hobj⟩ := grown (e := e) hI h0 hxcell hycell huxs huys huxc huc (by simpa using hheap) hos hou hc1 hrest
              obtain ⟨hI2, hle2⟩ := Post.moveTok (w := w') hp.1 hk (h := .spare w.heap.size ((xs.length + ys.length) * em) (c - (xs.length + ys.length)) em (n' + ys.length)) (n := n' + ys.length)
                (.inr ⟨_, _, _, _, _, rfl, by omega⟩) (hobj _ _) (fun k' h' _ hk' => Hd.disj_new hI (fun b hb => by rcases hb with hb | ⟨_, _, _, _, hb, _⟩ <;> cases hb; exact Nat.le_refl _) k' h' hk')
              refine ⟨_, w', F', _, .inl (run1 hrun), ⟨hI2, { hp.2.1 with hd := fun k' h' hk' => ?_ }, Mu.le_trans hp.2.2 hle2⟩, ?_⟩
              · by_cases c' : k' = k
                · subst c'; rw [Mu.set_same] at hk'; cases hk'; exact Born.newRow (Nat.le_refl _)
                · rw [Mu.set_other c'] at hk'; exact hp.2.1.hd k' h' hk'
              · simp only [rel]
                refine ⟨some ⟨w.heap.size, 0, none⟩, c, by simp, ⟨.inr rfl, hfz⟩, by simpa using hc1, _, _, _, _, _, Mu.set_same .., by simp; omega, fun _ => ⟨by simp; omega, ?_⟩⟩
                exact .inr ⟨rfl, 0, rfl, by simp⟩
          · exact (fail_run hr).elim
    · exact (fail_run hr).elim
  case view k ev off len cap =>
    split at hr
    · rename_i hc3
      obtain ⟨rfl, rfl, hle⟩ := hc3
      obtain ⟨o, ho, hr⟩ := get_run hr
      cases o <;> simp only at hr <;> try (exact (fail_run hr).elim)
      rename_i cs
      split at hr
      · rename_i hfit
        have := ret_run hr; simp only at this; subst this
        simp only [rel] at hxs
        obtain ⟨b, hb, rfl⟩ := hxs
        obtain ⟨blk, tyb, hw, hcs, hnf⟩ := hI.cells ho hb
        have hlc := rels_length hcs
        have hst := run_storeCells' (P := P) hw (off := off + len) (xs := uys) (by omega) huc
        have hrt : rels F μ (ys.flatMap V.cellsOf) uys := rels_mono F.le_refl (noMu_le μ) _ _ huys
        refine ⟨.slice (some ⟨b, off, none⟩) (len + ys.length) cap, w.setRow b (blk.take (off + len) ++ uys ++ blk.drop (off + len + uys.length)).toArray, F, μ, .inl (run1 ?_), Post.setBlk hI hb (by simp) (fun b' hb' => setRow_other w b b' _ hb') rfl rfl ⟨_, tyb, setRow_heap w b _ _ tyb (0, 0) hw, rels_splice hcs hrt, hnf⟩, by simp only [rel]; exact ⟨b, hb, rfl⟩⟩
        rw [hfits _ _ _ hle]
        simp only [addr_add, Nat.mul_one, hst, Result.andThen_ok]
      · exact (fail_run hr).elim
    · exact (fail_run hr).elim
  case nilslc =>
    split at hr
    · rename_i hc3
      obtain ⟨hb1, hb2⟩ := hc3
      simp only [rel] at hxs
      subst hxs
      split at hr
      · rename_i hemp
        have := just_run hr; subst this
        have hys : ys = [] := by simpa using hemp
        subst hys
        have hu0 : uys = [] := by simpa using hlu.symm
        subst hu0
        refine Good.same hI (v := .slice none 0 0) (run1 ?_) (by simp [rel])
        rw [hfits _ _ _ (by simp)]
        simp
      · rename_i hemp
        have hpos : 0 < ys.length := by
          cases ys with
          | nil => simp at hemp
          | cons _ _ => simp
        obtain ⟨hk, hr⟩ := new_run hr
        have := ret_run hr; simp only at this; subst this
        have hfx : ∀ w' : World, w'.heap = w.heap → (Builtin.firstCells m 0 (.slice none 0 0)).run P w' = .ok #[] w' := fun w' hw' => by simp [Builtin.firstCells]
        obtain ⟨c, w', rest, hc1, hrun, hheap, hos, hou, hrest⟩ := hgrows none 0 0 _ hfx (by omega) (Nat.le_refl _) (by simpa using hb1) (by simpa using hb2)
        obtain ⟨F', hp, hfz, hobj⟩ := grown (e := e) (xs := []) (old := []) (rest := rest) (c := c) hI h0 (by simp) hycell (by simp [rels]) huys (by simp) huc (by simpa using hheap) hos hou (by simpa using hc1) (by simpa using hrest)
        simp only [List.length_nil, Nat.zero_add] at hobj hrun hc1
        obtain ⟨hI2, hle2⟩ := Post.newTok (w := w') hp.1 hk (h := .spare w.heap.size (ys.length * m) (c - ys.length) m ys.length) (n := ys.length)
          (hobj _ _) (Hd.disj_new hI fun b hb => by rcases hb with hb | ⟨_, _, _, _, hb, _⟩ <;> cases hb; exact Nat.le_refl _)
        refine ⟨_, w', F', _, .inl (run1 hrun), ⟨hI2, { hp.2.1 with hd := fun k' h' hk' => ?_ }, Mu.le_trans hp.2.2 hle2⟩, ?_⟩
        · by_cases c' : k' = .loc dst 0
          · subst c'; rw [Mu.set_same] at hk'; cases hk'; exact Born.newRow (Nat.le_refl _)
          · rw [Mu.set_other c'] at hk'; exact hp.2.1.hd k' h' hk'
        · simp only [rel]
          refine ⟨some ⟨w.heap.size, 0, none⟩, c, rfl, ⟨.inr rfl, by simpa using hfz⟩, hc1, _, _, _, _, _, Mu.set_same .., by simp, fun _ => ⟨by omega, ?_⟩⟩
          exact .inr ⟨rfl, 0, rfl, by simp⟩
    · exact (fail_run hr).elim

theorem good_append {t t' ty e : TypeId} {d : TypeDesc} {m by_ dst : Nat} {s x : V} {us u : Value} {ys : List V} {a : Ans} {l l' rd : List Key} (hI : Inv F μ σ w)
    (hu : P.underlying t = some (.slice e)) (hu' : P.underlying t' = some d) (hd : notInt d) (hs : sizeT P e = some m) (hb : bytesT P e = some by_) (hz : zeroSize P e = some m) (h0 : m ≠ 0)
    (hxs : rel F μ s us) (hxu : rel F μ x u) (hsrc : (source m x).run σ l' = some (ys, l)) (hr : (appendTo m by_ dst s ys).run σ l = some (a, rd)) :
    Good P (do pure (.value (← Builtin.append_ #[t, t'] ty #[us, u]))) F μ σ w a := by
  obtain ⟨hlen, hycell, uys, huys, hfirst, huc⟩ := source_run (P := P) hI hxu h0 hsrc
  have hlu := rels_length huys
  rw [flatMap_cells_length hycell] at hlu
  have hfirst' : ∀ w' : World, w'.heap = w.heap → (Builtin.firstCells m ys.length u).run P w' = .ok uys.toArray w' := fun w' hw' => by
    rw [hfirst w' hw' ys.length (Nat.le_refl _), hlu, List.take_length]
  exact good_append_gen (e := e) (by_ := by_) hI h0 hycell huys huc (fun base len cap h => run_append_fits hu hu' hd hs hlen (hfirst' w rfl) h)
    (fun base len cap old ho h1 h2 h3 h4 => run_append_grows (ty := ty) hu hu' hd hs hb hz hlen ho hfirst' h1 h2 h3 h4) hxs hr

end
end Go.Ev
