/-
  What is proved: what an argument that is a row of bytes looks like, for the evaluator.
  Conditions: none.
-/
import Derived.Test.YtiiohfojejfolaaDoorC2
import Derived.ChangeSlices
set_option linter.unusedVariables false
set_option linter.unusedSimpArgs false
namespace Go.Proofs.YtiiohfojejfolaaDoor
open Go Go.Ev Go.Proofs Go.ChangeShapes Go.WideShapes Go.ChangeAt Go.RowKit Go.ChangeShapes

section
variable {H : Type} {enc : TypeId × Value → H} {P : Program} {w : World} {spare : Nat → Bool} {held : Bool} {base : Nat}
theorem open_bytes {b0 : Nat} {t e : TypeId} {k : IntKind} {v : Value} {d : DataW H} {ps : List MemPlace} (ht : P.underlying t = some (.slice e)) (he : P.underlying e = some (.int k)) (hce : P.cellsOf e = 1)
    (hval : Value.okWide P w .any b0 t v) (hd : DataW.Trod enc P w base spare held t v d ps) :
    ∃ l : List Int, rel (allF w) noMu (.slc 1 (l.map (V.int k)) .none) v ∧ ∀ m ∈ l, (Lit.int k m).wf = true := by
  obtain ⟨a0, len0, cap0, rfl⟩ := okWide_slice ht hval
  obtain ⟨fuel, hf⟩ := hd
  simp only [Value.cells] at hf
  rcases open_ints ht he hce hf with ⟨h0, _⟩ | ⟨a, len, cap, zs, h0, hb, hl, hm, hz, _, hcell, hwf⟩
  · simp only [List.cons.injEq, Value.slice.injEq, and_true] at h0
    obtain ⟨rfl, rfl, rfl⟩ := h0
    exact ⟨[], by simp only [rel]; exact ⟨none, 0, rfl, ⟨rfl, rfl⟩, by simp [ownRel]⟩, by simp⟩
  · simp only [List.cons.injEq, Value.slice.injEq, and_true] at h0
    obtain ⟨rfl, rfl, rfl⟩ := h0
    have hsp : a.spot = none := by
      unfold Value.okWide at hval
      rw [ht] at hval
      simp only [Cell.okWide, ht, Cell.ok] at hval
      exact hval.2.2.2.1
    have hle : len0 ≤ zs.length := by rw [hz]; split <;> omega
    refine ⟨zs.take len0, ?_, fun m hm' => hwf m (List.mem_of_mem_take hm')⟩
    have hlen : ((zs.take len0).map (V.int k)).length = len0 := by simp; omega
    simp only [rel]
    refine ⟨some a, cap0, by rw [hlen], ⟨.inr hsp, ?_⟩, by rw [hlen]; exact hl⟩
    rw [frzE_iff]
    have hflat : ∀ l : List Int, (l.map (V.int k)).flatMap V.cellsOf = ints k l := fun l => by
      induction l with
      | nil => rfl
      | cons n r ih => simp only [List.map_cons, List.flatMap_cons, V.cellsOf, List.singleton_append, ih, ints]
    refine ⟨fun x hx => by obtain ⟨n, _, rfl⟩ := List.mem_map.1 hx; rfl, ?_⟩
    rw [hflat]
    refine frz_ints fun i n hi => ?_
    rw [List.getElem?_take] at hi
    split at hi
    · rename_i hlt
      have h1 := hcell i (by omega)
      have h2 : zs.getD i 0 = n := by simp [List.getD_eq_getElem?_getD, hi]
      rw [h2] at h1
      rw [← h1]
      congr 1
      unfold Addr.add
      by_cases hi0 : i = 0
      · subst hi0; cases a; simp_all
      · simp [hi0]
    · cases hi
end
theorem kinds_ints {k : IntKind} (l : List Int) : kinds k (l.map (V.int k)) = true := by
  simp only [kinds, List.all_eq_true]
  intro x hx
  obtain ⟨n, _, rfl⟩ := List.mem_map.1 hx
  simp [isU]
end Go.Proofs.YtiiohfojejfolaaDoor
