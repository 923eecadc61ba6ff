/-
  Each operation of the program that is no call does in memory what it does on plain values.
-/
import Derived.Test.YtiiohfojejfolaaDoorEv15
set_option linter.unusedVariables false
set_option linter.unusedSimpArgs false
namespace Go.Ev
open Go

def AOp.isCall : AOp → Bool
  | .call .. | .callv .. => true
  | _ => false

section
variable {P : Program} {w : World} {F : Frz} {μ : Mu} {σ : Store}

theorem zeroT_size {t : TypeId} {cs : List V} (h : zeroT P t = some cs) : zeroSize P t = some cs.length := by
  obtain ⟨i, v, hi, hv, hc⟩ := zeroT_spec h
  have := rels_length (hc (fun _ => none) noMu)
  simp only [Array.length_toList] at this
  simp [zeroSize, hi, hv, this]

theorem fillArgs_eq {tm : Tm} {l : List (Nat × Nat × AOpd)} : fillArgs (AOpd.ev tm) l = l.map fun p => (p.1, p.2.1, p.2.2.ev tm) := by
  induction l with
  | nil => rfl
  | cons p r ih => obtain ⟨o, n, x⟩ := p; simp [fillArgs, ih]

variable {G : Globals} {tm : Tm} {a : Go.Act}

theorem prepFields_rel (hG : ∀ g cs, G.get g = some cs → frz F g 0 cs) (ht : TmRel F μ tm a.tmps) {fs : Array Field} : ∀ {ps : List (Nat × Operand)} {l : List (Nat × Nat × AOpd)}, prepFields P G fs ps = some l →
    partsRel F μ (fun i => (fs.map fun f => (f.offset, (sizeT P f.type).getD 0))[i]?) (fillArgs (AOpd.ev tm) l) (ps.map fun p => (p.1, a.eval p.2))
  | [], l, h => by simp only [prepFields, Option.some.injEq] at h; subst h; simp [fillArgs, partsRel]
  | (i, x) :: r, l, h => by
    simp only [prepFields] at h
    split at h
    · rename_i f y l' h1 h2 h3
      split at h
      · rename_i n hn
        cases h
        refine ⟨i, a.eval x, _, rfl, ?_, rel_coerce (rel_opd hG ht h2), prepFields_rel hG ht h3⟩
        simp [h1, hn]
      · cases h
    · cases h

theorem prepElems_rel (hG : ∀ g cs, G.get g = some cs → frz F g 0 cs) (ht : TmRel F μ tm a.tmps) {e n : Nat} : ∀ {ps : List (Nat × Operand)} {l : List (Nat × Nat × AOpd)}, prepElems P G e n ps = some l →
    partsRel F μ (fun i => some (i * n, n)) (fillArgs (AOpd.ev tm) l) (ps.map fun p => (p.1, a.eval p.2))
  | [], l, h => by simp only [prepElems, Option.some.injEq] at h; subst h; simp [fillArgs, partsRel]
  | (i, x) :: r, l, h => by
    simp only [prepElems] at h
    split at h
    · rename_i y l' h2 h3
      cases h
      exact ⟨i, a.eval x, _, rfl, rfl, rel_coerce (rel_opd hG ht h2), prepElems_rel hG ht h3⟩
    · cases h

theorem prepRow_rel (hG : ∀ g cs, G.get g = some cs → frz F g 0 cs) (ht : TmRel F μ tm a.tmps) {e n : Nat} {agg : Bool} : ∀ {ps : List (Nat × Operand)} {k : Nat} {l : List AOpd} {xs : List V}, prepRow P G e k ps = some l → settles n agg (l.map (AOpd.ev tm)) = some xs →
    xs.length = ps.length ∧ partsRel F noMu (fun i => some (i * n, n)) (rowParts n k xs) (ps.map fun p => (p.1, a.eval p.2))
  | [], k, l, xs, h, hs => by
    simp only [prepRow, Option.some.injEq] at h; subst h
    simp only [List.map_nil, settles, Option.some.injEq] at hs; subst hs
    simp [rowParts, partsRel]
  | (i, x) :: r, k, l, xs, h, hs => by
    simp only [prepRow] at h
    split at h
    · rename_i hik
      subst hik
      split at h
      · rename_i y l' h2 h3
        cases h
        simp only [List.map_cons, settles] at hs
        split at hs
        · rename_i z zs h4 h5
          cases hs
          obtain ⟨g1, g2⟩ := prepRow_rel hG ht h3 h5
          obtain ⟨_, _, s3, _⟩ := settle_spec h4
          exact ⟨by simp [g1], i, a.eval x, _, rfl, rfl, s3 F μ _ (rel_coerce (rel_opd hG ht h2)), g2⟩
        · cases hs
      · cases h
    · cases h

theorem optOpd_rel (hG : ∀ g cs, G.get g = some cs → frz F g 0 cs) (ht : TmRel F μ tm a.tmps) {x : Option Operand} {y : Option AOpd} (h : optOpd G x = some y) : optRel F μ (y.map (AOpd.ev tm)) (x.map a.eval) := by
  cases x with
  | none => simp only [optOpd, Option.some.injEq] at h; subst h; trivial
  | some x =>
    simp only [optOpd, Option.map_eq_some_iff] at h
    obtain ⟨z, hz, rfl⟩ := h
    exact rel_opd hG ht hz

theorem coerce_lit {t : TypeId} {d : Nat} {x : V} {u : Value} (h : rel F μ x u) : rel F μ x u := h

/-- The operations that are answered by a value at once. -/
theorem good_val {s : Sem Value} {x : V} {u : Value} (hI : Inv F μ σ w) (hs : s.run P w = .ok u w) (hx : rel F μ x u) : Good P (do pure (.value (← s))) F μ σ w ⟨x, []⟩ :=
  Good.same hI (by simp only [Sem.run_bind, hs, Result.andThen_ok, Sem.run_pure]) hx

end
end Go.Ev
