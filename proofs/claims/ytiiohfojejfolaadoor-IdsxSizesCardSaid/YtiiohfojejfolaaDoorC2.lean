/-
  What is proved: what an argument that is an array of numbers looks like, for the evaluator.
  Conditions: none.
-/
import Derived.Test.YtiiohfojejfolaaDoorC1
set_option linter.unusedVariables false
set_option linter.unusedSimpArgs false
namespace Go.Proofs.YtiiohfojejfolaaDoor
open Go Go.Ev Go.Proofs Go.ChangeShapes Go.WideShapes Go.ChangeAt Go.RowKit

section
variable {H : Type} {enc : TypeId × Value → H} {P : Program} {w : World} {base : Nat} {spare : Nat → Bool} {held : Bool}
theorem open_arr {r : Reach} {b0 : Nat} {t e : TypeId} {n : Nat} {k : IntKind} {v : Value} {d : DataW H} {ps : List MemPlace} (ht : P.underlying t = some (.array n e)) (he : P.underlying e = some (.int k)) (hce : P.cellsOf e = 1) (hct : P.cellsOf t = n)
    (hval : Value.okWide P w r b0 t v) (hd : DataW.Trod enc P w base spare held t v d ps) :
    ∃ ns : List Int, v = .agg (ns.map (Value.int k)).toArray ∧ ns.length = n ∧ ∀ m ∈ ns, (Lit.int k m).wf = true := by
  unfold Value.okWide at hval
  rw [ht] at hval
  obtain ⟨cs, rfl, hsz, _⟩ := hval
  obtain ⟨fuel, hf⟩ := hd
  simp only [Value.cells] at hf
  obtain ⟨xs, m, _, _, hl, hxl, hel⟩ := DataW.trod_array ht hf
  have key : ∀ i, i < n → ∃ z, cs.toList[i]? = some (.int k z) ∧ (Lit.int k z).wf = true := fun i hi => by
    have h1 := hel i hi
    rw [hce, Nat.mul_one] at h1
    have h2 : ∃ x, xs[i]? = some x := ⟨_, List.getElem?_eq_getElem (by omega)⟩
    obtain ⟨x, hx⟩ := h2
    rw [hx] at h1
    obtain ⟨z, hz, _, hw⟩ := DataW.trod_int he h1
    refine ⟨z, ?_, hw⟩
    have : (cs.toList.drop i).take 1 = [Value.int k z] := hz
    have h3 : ((cs.toList.drop i).take 1)[0]? = some (Value.int k z) := by rw [this]; rfl
    simpa using h3
  have hlen : cs.toList.length = n := by rw [hl, hct]
  have hget : ∀ i, i < n → ∃ z, cs.toList[i]? = some (.int k z) ∧ (Lit.int k z).wf = true := key
  have main : ∀ (l : List Value), (∀ i, i < l.length → ∃ z, l[i]? = some (.int k z) ∧ (Lit.int k z).wf = true) → ∃ ns : List Int, l = ns.map (Value.int k) ∧ ∀ m ∈ ns, (Lit.int k m).wf = true := by
    intro l
    induction l with
    | nil => intro _; exact ⟨[], rfl, by simp⟩
    | cons a r ih =>
      intro h
      obtain ⟨z, hz, hw⟩ := h 0 (by simp)
      obtain ⟨ns, hns, hws⟩ := ih fun i hi => by simpa using h (i + 1) (by simpa using hi)
      simp only [List.getElem?_cons_zero, Option.some.injEq] at hz
      exact ⟨z :: ns, by rw [hz, hns]; rfl, fun m hm => by rcases List.mem_cons.1 hm with rfl | hm; exact hw; exact hws m hm⟩
  obtain ⟨ns, hns, hws⟩ := main cs.toList fun i hi => hget i (by omega)
  refine ⟨ns, ?_, ?_, hws⟩
  · congr 1
    apply Array.ext'
    simpa using hns
  · have := congrArg List.length hns
    simp at this
    simp at hlen
    omega
end
theorem rels_ints {F : Frz} {μ : Mu} {k : IntKind} : ∀ (l : List Int), rels F μ (l.map (V.int k)) (l.map (Value.int k))
  | [] => rfl
  | n :: r => ⟨_, _, rfl, by simp only [rel], rels_ints r⟩
theorem rel_arr {F : Frz} {μ : Mu} {k : IntKind} (l : List Int) : rel F μ (.agg (l.map (V.int k))) (.agg (l.map (Value.int k)).toArray) := by
  simp only [rel]
  exact ⟨_, rfl, rels_ints l⟩
end Go.Proofs.YtiiohfojejfolaaDoor
