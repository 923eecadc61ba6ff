/-
  One operation's step, and regions in the order of the text.
-/
import Derived.Test.YtiiohfojejfolaaDoorEv19
import Derived.Tactics
set_option linter.unusedVariables false
set_option linter.unusedSimpArgs false
namespace Go.Ev
open Go

section
variable {P : Program} {w : World} {F : Frz} {μ : Mu} {σ : Store} {G : Globals} {C : FuncId → Option Contract} {acc : List Nat} {ops : Array Oper}

theorem tmRel_put {tm : Tm} {a : Go.Act} {o : AOper} {dst : Option Nat} {x : V} {v : Value} (ho : o.dst = dst) (hd : ∀ d, dst = some d → d < a.tmps.size) (ht : TmRel F μ tm a.tmps) (hx : rel F μ x v) :
    TmRel F μ (o.put tm x) (a.put dst v).tmps := by
  subst ho
  unfold AOper.put
  cases hq : o.dst with
  | none => exact ht
  | some d =>
    intro i
    have hlt := hd d hq
    simp only [Go.Act.put, Tm.at_cons]
    by_cases h : d = i
    · subst h
      rw [if_pos rfl]
      have : (a.tmps.setIfInBounds d v).getD d undef = v := by simp [hlt]
      rw [this]; exact hx
    · rw [if_neg h]
      have : (a.tmps.setIfInBounds d v).getD i undef = a.tmps.getD i undef := by simp [Array.getElem?_setIfInBounds_ne h]
      rw [this]; exact ht i

theorem TmRel.mono {F' : Frz} {μ' : Mu} {tm : Tm} {us : Array Value} (hF : F.le F') (hm : μ.le μ') (h : TmRel F μ tm us) : TmRel F' μ' tm us := fun i => rel_mono hF hm _ _ (h i)

theorem prepOp_call {o : Oper} {ao : AOp} (h : prepOp P G acc o = some ao) (hc : ao.isCall = true) : ∃ c f, o.op = .call c ∧ c.callee = .value f := by
  obtain ⟨odst, op, ty, pos, after, guard⟩ := o
  cases op
  case makeMap t r =>
    exfalso
    cases r <;> simp only [prepOp] at h
    · split at h <;> first | (cases h; done) | (cases h; simp [AOp.isCall] at hc; done)
    · cases h
  all_goals simp only [prepOp] at h
  case call c =>
    obtain ⟨callee, cargs, ctypes⟩ := c
    cases callee with
    | value f => exact ⟨_, f, rfl, rfl⟩
    | invoke r n => split at h <;> simp at h
    | builtin b =>
      exfalso
      split at h <;> first | (cases h; done) | skip
      simp only at h
      split at h <;> first | (cases h; done) | skip
      all_goals
        first
          | (cases h; simp [AOp.isCall] at hc; done)
          | (split at h <;> first | (cases h; done) | (cases h; simp [AOp.isCall] at hc; done) | (simp only [Option.map_eq_some_iff] at h; obtain ⟨_, _, rfl⟩ := h; simp [AOp.isCall] at hc; done) |
              (split at h <;> first | (cases h; done) | (cases h; simp [AOp.isCall] at hc; done) | (split at h <;> first | (cases h; done) | (cases h; simp [AOp.isCall] at hc; done))))
          | ((repeat' (split at h)) <;> first | (cases h; done) | (cases h; simp [AOp.isCall] at hc; done))
  all_goals
    exfalso
    first
      | (simp only [Option.map_eq_some_iff] at h; obtain ⟨_, _, rfl⟩ := h; first | (simp [AOp.isCall] at hc; done) | (unfold accOp at hc; split at hc <;> (try split at hc) <;> simp [AOp.isCall] at hc; done))
      | (cases h; done)
      | ((repeat' (split at h)) <;> first | (cases h; done) | (cases h; simp [AOp.isCall] at hc; done) | (simp only [Option.map_eq_some_iff] at h; obtain ⟨_, _, rfl⟩ := h; simp [AOp.isCall] at hc; done))

theorem callBy_some {dst : Nat} {f : FuncId} {args : List V} {l : List Key} {r : Ans × List Key} (h : (callBy C dst f args).run σ l = some r) : (C f).isSome = true := by
  unfold callBy at h
  split at h
  · exact (fail_run h).elim
  · rename_i hc; simp [hc]

/-- A call's operation. -/
theorem good_callop (hS : Sound P G C) (hI : Inv F μ σ w) (hG : ∀ g cs, G.get g = some cs → frz F g 0 cs) {tm : Tm} {a : Go.Act} (ht : TmRel F μ tm a.tmps) {o : Oper} {ao : AOp} (h : prepOp P G acc o = some ao) (hc : ao.isCall = true)
    {dst : Nat} {ans : Ans} {rd : List Key} (hr : (act C dst (AOpd.ev tm) ao).run σ [] = some (ans, rd)) :
    ∃ f us, (execOp a.eval o).run P w = (callFunc f us.toArray).run P w ∧ CallGood P f us F μ σ w ans := by
  obtain ⟨c, fo, ho, hcal⟩ := prepOp_call h hc
  obtain ⟨odst, op, ty, pos, after, guard⟩ := o
  simp only at ho
  subst ho
  obtain ⟨callee, cargs, ctypes⟩ := c
  simp only at hcal
  subst hcal
  simp only [prepOp] at h
  split at h <;> first | (cases h; done) | skip
  rename_i args hargs
  have hrels := rels_coerces (P := P) (ts := ctypes.toList) (rels_opds (a := a) hG ht hargs)
  have hargsA : cargs.map a.eval = (cargs.toList.map a.eval).toArray := by apply Array.ext'; simp
  split at h <;> first | (cases h; done) | skip
  · rename_i g hf
    cases h
    have hfr := rel_opd (a := a) hG ht hf
    simp only [AOpd.ev, rel, rels] at hfr
    obtain ⟨f', c', hfv, rfl, rfl⟩ := hfr
    simp only [act] at hr
    refine ⟨g, cargs.toList.map a.eval, ?_, call_good hS hI hG hrels hr⟩
    simp only [execOp, Sem.run_bind, resolve, hfv, Deferred.ofValue, Sem.run_pure, Result.andThen_ok, invoke]
    rw [hargsA]
    congr 2
    simp
  · rename_i y hf
    cases h
    have hfr := rel_opd (a := a) hG ht hf
    simp only [act] at hr
    split at hr
    · rename_i g first captured hy
      rw [hy] at hfr
      simp only [rel] at hfr
      obtain ⟨f', c', hfv, r1, r2⟩ := hfr
      refine ⟨g, f' ++ cargs.toList.map a.eval ++ c', ?_, call_good hS hI hG (rels_append (rels_append r1 hrels) r2) hr⟩
      simp only [execOp, Sem.run_bind, resolve, hfv, Deferred.ofValue, Sem.run_pure, Result.andThen_ok, invoke]
      rw [hargsA]
      congr 2
      simp
    · exact (fail_run hr).elim

structure StRel (n : Nat) (F : Frz) (μ : Mu) (s : St) (a : Go.Act) (w : World) : Prop where
  inv : Inv F μ s.st w
  tm : TmRel F μ s.tm a.tmps
  dn : a.defers = []
  sz : n ≤ a.tmps.size

theorem put_defers {a : Go.Act} {dst : Option Nat} {v : Value} (h : a.defers = []) : (a.put dst v).defers = [] := by cases dst <;> exact h
theorem put_size {a : Go.Act} {dst : Option Nat} {v : Value} : (a.put dst v).tmps.size = a.tmps.size := by cases dst <;> simp [Go.Act.put]

theorem prepOper_op {o : Oper} {ao : AOper} (h : prepOper P G acc ops o = some ao) : prepOp P G acc o = some ao.op ∧ ao.dst = o.dst ∧
    ((o.guard = none ∧ ao.guard = none) ∨ ∃ j want g, o.guard = some (j, want) ∧ (ops[j]?).bind (·.dst) = some g ∧ ao.guard = some (g, want)) := by
  unfold prepOper at h
  split at h
  · cases h
  · rename_i op hop
    split at h
    · rename_i hg; cases h; exact ⟨hop, rfl, .inl ⟨hg, rfl⟩⟩
    · rename_i j want hg
      split at h
      · rename_i g hgd; cases h; exact ⟨hop, rfl, .inr ⟨j, want, g, hg, hgd, rfl⟩⟩
      · cases h

theorem tmRel_at {tm : Tm} {us : Array Value} {g : Nat} {x : V} (ht : TmRel F μ tm us) (hx : tm.at g = x) : rel F μ x (us.getD g undef) := by
  subst hx; exact ht g

/-- One operation. -/
theorem op_wp (hS : Sound P G C) {F0 : Frz} {o : Oper} {ao : AOper} (hp : prepOper P G acc ops o = some ao) {s s' : St} {rd wr : List Key} (hs : step C s ao = some (s', rd, wr)) {a : Go.Act} {n : Nat} (hR : StRel n F μ s a w) (hd : ∀ d, o.dst = some d → d < n) (hG : ∀ g cs, G.get g = some cs → frz F g 0 cs)
    {K : Go.Act → World → Prop} {Q : Exit → Go.Act → World → Prop} (hK : ∀ (v : Value) w' F' μ', Ext μ F w μ' F' w' → μ.le μ' → StRel n F' μ' s' (a.put o.dst v) w' → K (a.put o.dst v) w') :
    if Region.wanted o (yielded ops a.tmps) then o.wp P a w K Q else K (a.put o.dst undef) w := by
  obtain ⟨hop, hdst, hguard⟩ := prepOper_op hp
  -- the operation itself
  have main : (∀ an rdd, (act C (ao.dst.getD noSlot) (AOpd.ev s.tm) ao.op).run s.st [] = some (an, rdd) → s' = ⟨ao.put s.tm an.v, s.st.puts an.up⟩ → o.wp P a w K Q) := fun an rdd hr hs' => by
    have put : ∀ (v : Value) (w' : World) (F' : Frz) (μ' : Mu), Post F μ w F' μ' (s.st.puts an.up) w' → rel F' μ' an.v v → K (a.put o.dst v) w' := fun v w' F' μ' hpost hv => by
      refine hK v w' F' μ' hpost.2.1 hpost.2.2 ⟨by rw [hs']; exact hpost.1, ?_, put_defers hR.dn, by rw [put_size]; exact hR.sz⟩
      rw [hs']
      exact tmRel_put hdst (fun d h => Nat.lt_of_lt_of_le (hd d h) hR.sz) (hR.tm.mono hpost.2.1.le hpost.2.2) hv
    unfold Oper.wp
    cases hc : ao.op.isCall with
    | false =>
      obtain ⟨v, w', F', μ', hrun, hpost, hv⟩ := good_op hR.inv hG hR.tm hop hc hr
      rcases hrun with hrun | ⟨hrun, rfl⟩
      · rw [hrun]; exact put v w' F' μ' hpost hv
      · rw [hrun]; exact put undef w' F' μ' hpost hv
    | true =>
      obtain ⟨f, us, hrun, hcall⟩ := good_callop hS hR.inv hG hR.tm hop hc hr
      rw [hrun]
      rcases hcall with ⟨hcall, hent⟩ | ⟨u, w', hval, u', F', μ', he, hpost, hv⟩
      · rw [hent]
        simp only [Oper.upon]
        exact hcall.mono fun e w' ⟨u, F', μ', he, hpost, hv⟩ => by
          subst he
          exact put u w' F' μ' hpost hv
      · cases he
        rw [hval]
        exact put _ w' F' μ' hpost hv
  have skip : s' = ⟨ao.put s.tm (.tuple []), s.st⟩ → K (a.put o.dst undef) w := fun hs' => by
    refine hK undef w F μ (Ext.refl ..) (Mu.le_refl _) ⟨by rw [hs']; exact hR.inv, ?_, put_defers hR.dn, by rw [put_size]; exact hR.sz⟩
    rw [hs']
    exact tmRel_put hdst (fun d h => Nat.lt_of_lt_of_le (hd d h) hR.sz) hR.tm (by simp [rel, rels, undef])
  rw [step_eq] at hs
  unfold stepA at hs
  rcases hguard with ⟨g1, g2⟩ | ⟨j, want, g, g1, g2, g3⟩
  · rw [g2] at hs
    simp only [Region.wanted, g1, if_true]
    split at hs
    · rename_i an rdd hr; cases hs; exact main an _ hr rfl
    · cases hs
  · rw [g3] at hs
    simp only at hs
    split at hs
    · rename_i b hb
      have hru := tmRel_at hR.tm hb
      simp only [rel] at hru
      have hu : a.tmps[g]? = some (.bool b) := by
        cases hq : a.tmps[g]? with
        | none => simp [hq, undef] at hru
        | some u => simp [hq] at hru; rw [hru]
      have hy : yielded ops a.tmps j = some b := by simp [yielded, g2, hu]
      split at hs
      · rename_i hbw
        subst hbw
        simp only [Region.wanted, g1, hy, beq_self_eq_true, if_true]
        split at hs
        · rename_i an rdd hr; cases hs; exact main an _ hr rfl
        · cases hs
      · rename_i hbw
        cases hs
        have : Region.wanted o (yielded ops a.tmps) = false := by simp [Region.wanted, g1, hy, hbw]
        rw [this]
        exact skip rfl
    · rename_i hb
      have hru := tmRel_at hR.tm hb
      simp only [rel, rels] at hru
      obtain ⟨us, hru, rfl⟩ := hru
      cases hs
      have hy : yielded ops a.tmps j = none := by
        cases hq : a.tmps[g]? with
        | none => simp [yielded, g2, hq]
        | some u =>
          simp [hq] at hru
          simp [yielded, g2, hq, hru]
      have : Region.wanted o (yielded ops a.tmps) = false := by simp [Region.wanted, g1, hy]
      rw [this]
      exact skip rfl
    · cases hs

end
end Go.Ev
