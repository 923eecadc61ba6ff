/-
  Each operation does in memory what it does on plain values: the operands, and the operations that only look.
-/
import Derived.Test.YtiiohfojejfolaaDoorEv4
import Derived.Test.YtiiohfojejfolaaDoorEv5
import Derived.Laws.Entries
set_option linter.unusedVariables false
set_option linter.unusedSimpArgs false
namespace Go.Ev
open Go

def Good (P : Program) (s : Sem Next) (F : Frz) (μ : Mu) (σ : Store) (w : World) (a : Ans) : Prop :=
  ∃ v w' F' μ', (s.run P w = .ok (.value v) w' ∨ (s.run P w = .ok .skip w' ∧ v = undef)) ∧ Post F μ w F' μ' (σ.puts a.up) w' ∧ rel F' μ' a.v v

theorem Good.same {P : Program} {s : Sem Next} {F : Frz} {μ : Mu} {σ : Store} {w : World} {x : V} {v : Value} (hI : Inv F μ σ w) (hs : s.run P w = .ok (.value v) w) (hv : rel F μ x v) : Good P s F μ σ w ⟨x, []⟩ :=
  ⟨v, w, F, μ, .inl hs, Post.refl hI, hv⟩

theorem just_run {σ : Store} {x : V} {a : Ans} {l rd : List Key} (h : (Act.just x).run σ l = some (a, rd)) : a = ⟨x, []⟩ := by
  simp only [Act.just, Act.run, Option.some.injEq, Prod.mk.injEq] at h; exact h.1.symm

/-! ### operands -/
theorem rel_ofValue {F : Frz} {μ : Mu} (v : Value) (x : V) (h : ofValue v = some x) : rel F μ x v := by
  unfold ofValue at h
  split at h <;> first | (cases h; done) | (cases h; simp [rel, rels])

def TmRel (F : Frz) (μ : Mu) (tm : Tm) (us : Array Value) : Prop := ∀ i, rel F μ (tm.at i) (us.getD i undef)

theorem rel_opd {G : Globals} {F : Frz} {μ : Mu} {tm : Tm} {a : Go.Act} (hG : ∀ g cs, G.get g = some cs → frz F g 0 cs) (ht : TmRel F μ tm a.tmps) {x : Operand} {y : AOpd}
    (h : prepOpd G x = some y) : rel F μ (y.ev tm) (a.eval x) := by
  cases x with
  | tmp t =>
    simp only [prepOpd, Option.some.injEq] at h; subst h
    exact ht t
  | const v =>
    simp only [prepOpd, Option.map_eq_some_iff] at h
    obtain ⟨x, hx, rfl⟩ := h
    exact rel_ofValue v x hx
  | global g =>
    simp only [prepOpd, Option.map_eq_some_iff] at h
    obtain ⟨cs, hx, rfl⟩ := h
    simp only [AOpd.ev, Act.eval, rel]
    exact ⟨g, 0, rfl, hG g cs hx⟩
  | func f =>
    simp only [prepOpd, Option.some.injEq] at h; subst h
    simp only [AOpd.ev, Act.eval, rel]
    exact ⟨[], [], rfl, rfl, rfl⟩

theorem rel_nilrow {F : Frz} {μ : Mu} {n : Nat} {u : Value} (h : rel F μ .nilslc u) : rel F μ (.slc n [] .tight) u := by
  simp only [rel] at h ⊢
  subst h
  exact ⟨none, 0, by simp, by simp, rfl⟩

theorem rel_coerce {P : Program} {t : TypeId} {F : Frz} {μ : Mu} {tm : Tm} {x : AOpd} {u : Value} (h : rel F μ (x.ev tm) u) : rel F μ ((coerce P t x).ev tm) u := by
  unfold coerce
  split
  · split
    · exact rel_nilrow h
    · exact h
  · exact h

theorem rels_opds {G : Globals} {F : Frz} {μ : Mu} {tm : Tm} {a : Go.Act} (hG : ∀ g cs, G.get g = some cs → frz F g 0 cs) (ht : TmRel F μ tm a.tmps) : ∀ {xs : List Operand} {ys : List AOpd},
    prepOpds G xs = some ys → rels F μ (ys.map (AOpd.ev tm)) (xs.map a.eval)
  | [], ys, h => by simp only [prepOpds, Option.some.injEq] at h; subst h; simp [rels]
  | x :: r, ys, h => by
    simp only [prepOpds] at h
    split at h
    · rename_i y l h1 h2
      cases h
      simp only [List.map_cons, rels]
      exact ⟨_, _, rfl, rel_opd hG ht h1, rels_opds hG ht h2⟩
    · cases h

theorem rels_coerces {P : Program} {F : Frz} {μ : Mu} {tm : Tm} : ∀ {ts : List TypeId} {ys : List AOpd} {us : List Value},
    rels F μ (ys.map (AOpd.ev tm)) us → rels F μ ((coerces P ts ys).map (AOpd.ev tm)) us
  | [], ys, us, h => by simpa [coerces] using h
  | t :: ts, [], us, h => by simpa [coerces] using h
  | t :: ts, y :: ys, us, h => by
    simp only [List.map_cons, rels] at h
    obtain ⟨u, us', rfl, h1, h2⟩ := h
    simp only [coerces, List.map_cons, rels]
    exact ⟨u, us', rfl, rel_coerce h1, rels_coerces h2⟩

/-! ### types -/
section
variable {P : Program} {w : World}

theorem sizeT_info {t : TypeId} {n : Nat} (h : sizeT P t = some n) : ∃ i d, P.info? t = some i ∧ i.size = n ∧ P.underlying t = some d := by
  unfold sizeT at h
  split at h
  · rename_i hu
    obtain ⟨d, hd⟩ := Option.isSome_iff_exists.1 hu
    cases hi : P.info? t with
    | none => simp [hi] at h
    | some i => exact ⟨i, d, rfl, by simpa [hi] using h, hd⟩
  · cases h

theorem run_sizeOf' {t : TypeId} {n : Nat} (h : sizeT P t = some n) : (sizeOf t).run P w = .ok n w := by
  obtain ⟨i, d, hi, hn, _⟩ := sizeT_info h
  simp [sizeOf, typeInfo, hi, hn]

theorem run_isAgg {t : TypeId} {n : Nat} (h : sizeT P t = some n) : (isAgg t).run P w = .ok (aggT P t) w := by
  obtain ⟨i, d, hi, hn, hd⟩ := sizeT_info h
  unfold isAgg aggT
  simp only [Sem.run_bind, run_underlying hd, Result.andThen_ok, hd]
  cases d <;> simp

theorem addr_add (b o n : Nat) : (⟨b, o, none⟩ : Addr).add n = ⟨b, o + n, none⟩ := by
  unfold Addr.add; split <;> simp_all

/-- Cells that are read, one behind the other. -/
theorem run_loads {b o : Nat} {us : List Value} (h : ∀ j v, us[j]? = some v → w.cell? ⟨b, o + j, none⟩ = some v) : (loadCells ⟨b, o, none⟩ us.length).run P w = .ok us.toArray w :=
  run_loadCells_list (P := P) w ⟨b, o, none⟩ us fun j v hj => by rw [addr_add]; exact h j v hj

theorem run_loadVar' {t : TypeId} {n b o : Nat} {us : List Value} (ht : sizeT P t = some n) (hn : us.length = n) (h : ∀ j v, us[j]? = some v → w.cell? ⟨b, o + j, none⟩ = some v) (h1 : aggT P t = false → n = 1) :
    (loadVar t ⟨b, o, none⟩).run P w = .ok (if aggT P t then .agg us.toArray else us.headD undef) w := by
  unfold loadVar
  simp only [Sem.run_bind, run_isAgg ht, Result.andThen_ok]
  cases hg : aggT P t with
  | true =>
    simp only [if_true, Sem.run_bind, run_sizeOf' ht, Result.andThen_ok]
    rw [← hn, run_loads h]
    rfl
  | false =>
    have hn1 := h1 hg
    cases us with
    | nil => simp at hn; omega
    | cons u r =>
      have := h 0 u rfl
      simp at this
      simp [this]

theorem rel_mk {F : Frz} {μ : Mu} {cs : List V} {us : List Value} {agg : Bool} (h : rels F μ cs us) (h1 : cs ≠ []) : rel F μ (V.mk agg cs) (if agg then .agg us.toArray else us.headD undef) := by
  cases agg with
  | true => simp only [V.mk, if_true, rel]; exact ⟨us, rfl, h⟩
  | false =>
    cases cs with
    | nil => exact absurd rfl h1
    | cons c r =>
      simp only [rels] at h
      obtain ⟨u, us', rfl, hc, _⟩ := h
      simpa [V.mk] using hc

theorem mem_of_take_drop {l : List Value} {off n j : Nat} {v : Value} (h : ((l.drop off).take n)[j]? = some v) : l[off + j]? = some v := by
  rw [List.getElem?_take] at h
  split at h
  · simpa using h
  · cases h

variable {F : Frz} {μ : Mu} {σ : Store}

theorem Inv.cells {k : Key} {b : Nat} {cs : List V} (hI : Inv F μ σ w) (hk : σ.get k = some (.cells cs)) (hb : μ k = some (.blk b)) :
    ∃ (us : List Value) (ty : TypeId), w.heap[b]? = some (.cells us.toArray ty (0, 0)) ∧ rels F μ cs us ∧ ∀ off, F ⟨b, off, none⟩ = none := by
  obtain ⟨h, h1, h2⟩ := hI.dom1 k _ hk
  rw [hb] at h1; cases h1
  exact h2

theorem Inv.map {k : Key} {b : Nat} {es : List (V × V)} (hI : Inv F μ σ w) (hk : σ.get k = some (.map es)) (hb : μ k = some (.blk b)) :
    ∃ (ents : Array MapEntry) (clock : Nat), w.heap[b]? = some (.map ents clock) ∧ mapRel F μ es ents.toList := by
  obtain ⟨h, h1, h2⟩ := hI.dom1 k _ hk
  rw [hb] at h1; cases h1
  exact h2

theorem cell_of_heap {b j : Nat} {us : List Value} {ty : TypeId} {fr : Nat × Nat} (h : w.heap[b]? = some (.cells us.toArray ty fr)) : w.cell? ⟨b, j, none⟩ = us[j]? := by
  simp [World.cell?, h]

/-- Cells that stay, read. -/
theorem frz_read {b o : Nat} {cs : List V} (hI : Inv F μ σ w) (h : frz F b o cs) : ∃ us, rels F noMu cs us ∧ (∀ j v, us[j]? = some v → w.cell? ⟨b, o + j, none⟩ = some v) ∧ ∀ u ∈ us, u.oneCell' = true := by
  induction cs generalizing o with
  | nil => exact ⟨[], rfl, by simp, by simp⟩
  | cons c r ih =>
    simp only [frz] at h
    obtain ⟨⟨u, hu, hc⟩, hr⟩ := h
    obtain ⟨us, h1, h2, h3⟩ := ih hr
    refine ⟨u :: us, ⟨u, us, rfl, hc, h1⟩, fun j v hj => ?_, fun x hx => by
      rcases List.mem_cons.1 hx with rfl | hx
      · exact (hI.frozen _ _ hu).2.2
      · exact h3 x hx⟩
    cases j with
    | zero => simp at hj; subst hj; exact (hI.frozen _ _ hu).2.1
    | succ j =>
      simp at hj
      have := h2 j v hj
      rwa [Nat.add_assoc, Nat.add_comm 1 j] at this

theorem good_load {t : TypeId} {n : Nat} {x : V} {u : Value} {a : Ans} {rd : List Key} (hI : Inv F μ σ w) (ht : sizeT P t = some n) (hx : rel F μ x u) (h1 : aggT P t = false → n = 1) (h0 : n ≠ 0)
    (hr : (match x with
      | .ptr k off => Act.get k fun
        | .cells cs => if ((cs.drop off).take n).length = n then Act.just (V.mk (aggT P t) ((cs.drop off).take n)) else .fail
        | _ => .fail
      | .elem cs => if (cs.take n).length = n then Act.just (V.mk (aggT P t) (cs.take n)) else .fail
      | _ => Act.fail).run σ [] = some (a, rd)) : Good P (do pure (.value (← Instr.loadAt t u))) F μ σ w a := by
  cases x <;> simp only [Act.run, reduceCtorEq] at hr
  case ptr k off =>
    simp only [rel] at hx
    obtain ⟨b, hb, rfl⟩ := hx
    split at hr
    · rename_i o ho
      cases o <;> simp only [Act.run, reduceCtorEq] at hr
      case cells cs =>
        obtain ⟨us, ty, hw, hc, _⟩ := hI.cells ho hb
        split at hr
        · rename_i hl
          have := just_run hr; subst this
          have hc' := rels_take n (rels_drop off hc)
          have hlen := rels_length hc'
          have hrun := run_loadVar' (P := P) (w := w) ht (b := b) (o := off) (us := (us.drop off).take n) (by rw [← hlen, hl]) (fun j v hj => by
            rw [cell_of_heap hw]; exact mem_of_take_drop hj) h1
          refine Good.same hI ?_ (rel_mk hc' (by intro hn; rw [hn] at hl; simp at hl; omega))
          simp [Instr.loadAt, Instr.sureAddr, hrun]
        · simp [Act.run] at hr
    · cases hr
  case elem cs =>
    simp only [rel] at hx
    obtain ⟨b, o, rfl, hf⟩ := hx
    split at hr
    · rename_i hl
      have := just_run hr; subst this
      obtain ⟨us, hc, hcell, _⟩ := frz_read hI (frz_take (n := n) hf)
      have hlen := rels_length hc
      have hrun := run_loadVar' (P := P) (w := w) ht (b := b) (o := o) (us := us) (by rw [← hlen, hl]) hcell h1
      refine Good.same hI ?_ (rel_mk (rels_mono F.le_refl (noMu_le μ) _ _ hc) (by intro hn; rw [hn] at hl; simp at hl; omega))
      simp [Instr.loadAt, Instr.sureAddr, hrun]
    · simp [Act.run] at hr

end
end Go.Ev
