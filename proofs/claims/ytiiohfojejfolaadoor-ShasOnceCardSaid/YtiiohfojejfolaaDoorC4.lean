/-
  What is proved: what an argument that is rows of bytes looks like, for the evaluator.
  Conditions: none.
-/
import Derived.Test.YtiiohfojejfolaaDoorC3
import Derived.Deep.Matrix
set_option linter.unusedVariables false
set_option linter.unusedSimpArgs false
namespace Go.Proofs.YtiiohfojejfolaaDoor
open Go Go.Ev Go.Proofs Go.ChangeShapes Go.WideShapes Go.ChangeAt Go.RowKit

theorem flat_ints {k : IntKind} (l : List Int) : (l.map (V.int k)).flatMap V.cellsOf = ints k l := by
  induction l with
  | nil => rfl
  | cons n r ih => simp only [List.map_cons, List.flatMap_cons, V.cellsOf, List.singleton_append, ih, ints]
/-- A row whose cells lie in memory. -/
theorem rel_row {w : World} {k : IntKind} {A : Option Addr} {L C : Nat} {Z : List Int} (hLC : L ≤ C) (hZ : Z.length = C) (hnone : A = none → C = 0) (hcell : ∀ a', A = some a' → ∀ c, c < C → w.cell? (a'.add c) = some (.int k (Z.getD c 0))) :
    rel (allF w) noMu (.slc 1 ((Z.take L).map (V.int k)) .none) (.slice A L C) := by
  have hlen : ((Z.take L).map (V.int k)).length = L := by simp; omega
  simp only [rel]
  refine ⟨A, C, by rw [hlen], ?_, by rw [hlen]; exact hLC⟩
  cases A with
  | none =>
    have hC := hnone rfl
    subst hC
    have : L = 0 := by omega
    subst this
    simp
  | some a =>
    have hz : ∀ c, c < C → ∃ n, Z[c]? = some n ∧ w.cell? (a.add c) = some (.int k n) := fun c hc => by
      refine ⟨Z.getD c 0, ?_, hcell a rfl c hc⟩
      rw [List.getD_eq_getElem?_getD, List.getElem?_eq_getElem (by omega)]
      rfl
    have hsp : (Z.take L).map (V.int k) = [] ∨ a.spot = none := by
      by_cases h0 : L = 0
      · exact .inl (by subst h0; simp)
      · obtain ⟨n, _, h⟩ := hz 0 (by omega)
        refine .inr ?_
        unfold World.cell? at h
        have ha : a.add 0 = a := by simp [Addr.add]
        rw [ha] at h
        split at h
        · split at h
          · cases h
          · rename_i hs
            cases hsp : a.spot with
            | none => rfl
            | some x => rw [hsp] at hs; simp at hs
        · cases h
    refine ⟨hsp, ?_⟩
    rw [frzE_iff]
    refine ⟨fun x hx => by obtain ⟨n, _, rfl⟩ := List.mem_map.1 hx; rfl, ?_⟩
    rw [flat_ints]
    refine frz_ints fun i n hi => ?_
    rw [List.getElem?_take] at hi
    split at hi
    · rename_i hlt
      obtain ⟨m, h1, h2⟩ := hz i (by omega)
      rw [hi] at h1
      cases h1
      rw [← h2]
      congr 1
      rcases hsp with hnil | hsp
      · have := congrArg List.length hnil; rw [hlen] at this; simp at this; omega
      · unfold Addr.add
        by_cases hi0 : i = 0
        · subst hi0; cases a; simp_all
        · simp [hi0]
    · cases hi

section
variable {H : Type} {enc : TypeId × Value → H} {P : Program} {w : World} {held : Bool} {base : Nat}
theorem open_rows {b0 : Nat} {t e q : TypeId} {k : IntKind} {v : Value} {d : DataW H} {ps : List MemPlace} (ht : P.underlying t = some (.slice e)) (he : P.underlying e = some (.slice q)) (hq : P.underlying q = some (.int k)) (ce : P.cellsOf e = 1) (cq : P.cellsOf q = 1)
    (hval : Value.okWide P w .any b0 t v) (hd : DataW.Trod enc P w base (fun _ => true) held t v d ps) :
    ∃ l : List (List Int), rel (allF w) noMu (.slc 1 (l.map fun z => V.slc 1 (z.map (V.int k)) .none) .none) v ∧ ∀ z ∈ l, ∀ m ∈ z, (Lit.int k m).wf = true := by
  obtain ⟨a0, len0, cap0, rfl⟩ := okWide_slice ht hval
  obtain ⟨fuel, hf⟩ := hd
  simp only [Value.cells] at hf
  rcases Deep.open_int_rows ht he hq ce cq hf with ⟨h0, _⟩ | ⟨a, len, cap, A, L, C, Z, h0, hb, hl, hm, _, hrow⟩
  · simp only [List.cons.injEq, Value.slice.injEq, and_true] at h0
    obtain ⟨rfl, rfl, rfl⟩ := h0
    exact ⟨[], by simp only [rel]; exact ⟨none, 0, rfl, ⟨rfl, rfl⟩, by simp [ownRel]⟩, by simp⟩
  · simp only [List.cons.injEq, Value.slice.injEq, and_true] at h0
    obtain ⟨rfl, rfl, rfl⟩ := h0
    have hsp : a.spot = none := by
      unfold Value.okWide at hval
      rw [ht] at hval
      simp only [Cell.okWide, ht, Cell.ok] at hval
      exact hval.2.2.2.1
    refine ⟨(List.range len0).map fun r => (Z r).take (L r), ?_, ?_⟩
    · have hlen : (((List.range len0).map fun r => (Z r).take (L r)).map fun z => V.slc 1 (z.map (V.int k)) .none).length = len0 := by simp
      simp only [rel]
      refine ⟨some a, cap0, by rw [hlen], ⟨.inr hsp, ?_⟩, by rw [hlen]; exact hl⟩
      rw [frzE_iff]
      refine ⟨fun x hx => by obtain ⟨n, _, rfl⟩ := List.mem_map.1 hx; rfl, ?_⟩
      have main : ∀ n o, o + n ≤ cap0 → frz (allF w) a.block (a.off + o) (((List.range' o n).map fun r => V.slc 1 (((Z r).take (L r)).map (V.int k)) .none).flatMap V.cellsOf) := by
        intro n
        induction n with
        | zero => intro o _; simp [frz]
        | succ n ih =>
          intro o ho
          simp only [List.range'_succ, List.map_cons, List.flatMap_cons, V.cellsOf, List.singleton_append, frz]
          obtain ⟨hc, h1, h2, h3, h4, h5, h6⟩ := hrow o (by omega)
          refine ⟨⟨.slice (A o) (L o) (C o), ?_, ?_⟩, by have := ih (o + 1) (by omega); rwa [show a.off + (o + 1) = a.off + o + 1 by omega] at this⟩
          · refine allF_of rfl ?_ rfl
            rw [← hc]
            congr 1
            unfold Addr.add
            by_cases ho0 : o = 0
            · subst ho0; cases a; simp_all
            · simp [ho0]
          · exact rel_row h1 h3 h5 fun a' ha' c hc' => (h6 a' ha').2 c hc'
      have := main len0 0 (by omega)
      rw [Nat.add_zero, ← List.range_eq_range'] at this
      rw [List.map_map]
      exact this
    · intro z hz m hm'
      obtain ⟨r, hr, rfl⟩ := List.mem_map.1 hz
      have hr' : r < len0 := by simpa using hr
      exact (hrow r (by omega)).2.2.2.2.1 m (List.mem_of_mem_take hm')
end
end Go.Proofs.YtiiohfojejfolaaDoor
