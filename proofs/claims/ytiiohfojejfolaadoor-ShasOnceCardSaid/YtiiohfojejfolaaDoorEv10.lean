/-
  Each operation does in memory what it does on plain values: appending, copying, slices' literals.
-/
import Derived.Test.YtiiohfojejfolaaDoorEv9
set_option linter.unusedVariables false
set_option linter.unusedSimpArgs false
namespace Go.Ev
open Go
section
variable {P : Program} {w : World} {F : Frz} {μ : Mu} {σ : Store}

theorem bind_run {α β : Type} {x : Act α} {f : α → Act β} {l : List Key} {r : β × List Key} (h : (x.bind f).run σ l = some r) : ∃ a l', x.run σ l = some (a, l') ∧ (f a).run σ l' = some r := by
  induction x generalizing l with
  | ret a => exact ⟨a, l, rfl, h⟩
  | fail => simp [Act.bind, Act.run] at h
  | get k g ih =>
    simp only [Act.bind, Act.run] at h
    split at h
    · rename_i o ho
      obtain ⟨a, l', h1, h2⟩ := ih o h
      exact ⟨a, l', by simp [Act.run, ho, h1], h2⟩
    · cases h
  | new k g ih =>
    simp only [Act.bind, Act.run] at h
    split at h
    · cases h
    · rename_i hk
      obtain ⟨a, l', h1, h2⟩ := ih h
      exact ⟨a, l', by simp [Act.run, hk, h1], h2⟩

/-- What is read of a source: its elements' cells, and how long it is. -/
theorem source_run {esz : Nat} {x : V} {u : Value} {xs : List V} {l l' : List Key} (hI : Inv F μ σ w) (hx : rel F μ x u) (h0 : esz ≠ 0)
    (h : (source esz x).run σ l = some (xs, l')) : (Builtin.lenOf u).run P w = .ok xs.length w ∧ (∀ y ∈ xs, y.cellsOf.length = esz) ∧
      ∃ us : List Value, rels F noMu (xs.flatMap V.cellsOf) us ∧ (∀ (w' : World), w'.heap = w.heap → ∀ n, n ≤ xs.length → (Builtin.firstCells esz n u).run P w' = .ok (us.take (n * esz)).toArray w') ∧ ∀ v ∈ us, v.oneCell' = true := by
  unfold source at h
  split at h
  · rename_i e xs' own
    split at h
    · rename_i he
      subst he
      simp only [Act.run, Option.some.injEq, Prod.mk.injEq] at h
      obtain ⟨rfl, _⟩ := h
      simp only [rel] at hx
      obtain ⟨base, cap, rfl, hb, ho⟩ := hx
      refine ⟨by simp [Builtin.lenOf], ?_⟩
      cases base with
      | none =>
        obtain ⟨rfl, rfl⟩ := hb
        exact ⟨by simp, [], by simp [rels], fun w' _ n hn => by simp [Builtin.firstCells], by simp⟩
      | some a =>
        obtain ⟨hsp, hf⟩ := hb
        rw [frzE_iff] at hf
        obtain ⟨us, hu, hc, h1c⟩ := frz_read hI hf.2
        have hlen := rels_length hu
        rw [flatMap_cells_length hf.1] at hlen
        refine ⟨hf.1, us, hu, fun w' hw' n hn => ?_, h1c⟩
        rcases hsp with hnil | hsp
        · subst hnil
          have hn0 : n = 0 := by simpa using hn
          subst hn0
          have := run_loadCells_list (w := w') (P := P) a [] (by simp)
          simpa [Builtin.firstCells] using this
        have ha : a = ⟨a.block, a.off, none⟩ := by cases a; simp_all
        have hle : n * e ≤ us.length := by rw [← hlen]; exact Nat.mul_le_mul_right e hn
        have := run_loads (P := P) (w := w') (b := a.block) (o := a.off) (us := us.take (n * e)) (fun j v hj => by
          rw [List.getElem?_take] at hj
          split at hj
          · rw [← hc j v hj]; simp only [World.cell?, hw']
          · cases hj)
        rw [List.length_take, Nat.min_eq_left hle] at this
        simp only [Builtin.firstCells]
        rw [ha]; exact this
    · cases h
  · simp only [Act.run, Option.some.injEq, Prod.mk.injEq] at h
    obtain ⟨rfl, _⟩ := h
    simp only [rel] at hx
    subst hx
    exact ⟨by simp [Builtin.lenOf], by simp, [], by simp [rels], fun w' _ n hn => by simp [Builtin.firstCells], by simp⟩
  · rename_i s
    split at h
    · rename_i he
      subst he
      simp only [Act.run, Option.some.injEq, Prod.mk.injEq] at h
      obtain ⟨rfl, _⟩ := h
      simp only [rel] at hx
      subst hx
      have hsz : (bytesV s).length = s.size := by simp [bytesV, ByteArray.toList_eq]
      have hcells : ∀ (l : List UInt8), (l.map fun b => (V.int .u8 b.toNat)).flatMap V.cellsOf = l.map fun b => (V.int .u8 b.toNat) := fun l => by
        induction l with
        | nil => rfl
        | cons c r ih => simp only [List.map_cons, List.flatMap_cons, ih]; rfl
      refine ⟨by simp [Builtin.lenOf, hsz], ?_, s.toList.map fun b => .int .u8 b.toNat, ?_, fun w' _ n hn => ?_, fun v hv => by
        simp only [List.mem_map] at hv; obtain ⟨b, _, rfl⟩ := hv; rfl⟩
      · intro y hy
        simp only [bytesV, List.mem_map] at hy
        obtain ⟨b, _, rfl⟩ := hy
        rfl
      · simp only [bytesV, hcells]
        rw [rels_iff]
        refine ⟨by simp, fun i v u hv hu => ?_⟩
        simp only [List.getElem?_map, Option.map_eq_some_iff] at hv hu
        obtain ⟨b, hb, rfl⟩ := hv
        obtain ⟨b', hb', rfl⟩ := hu
        rw [hb] at hb'; cases hb'
        simp [rel]
      · simp only [Builtin.firstCells, Sem.run_pure, Result.ok.injEq, and_true]
        apply Array.ext'
        rw [hsz] at hn
        simp [ByteArray.toList_eq, List.map_take, List.extract_eq_take_drop]
    · cases h
  · rename_i k e off len c
    split at h
    · rename_i he
      obtain ⟨rfl, rfl⟩ := he
      obtain ⟨o, ho, h⟩ := get_run h
      cases o <;> simp only [Act.run, reduceCtorEq] at h
      rename_i cs
      split at h
      · rename_i hc
        simp only [Act.run, Option.some.injEq, Prod.mk.injEq] at h
        obtain ⟨rfl, _⟩ := h
        simp only [rel] at hx
        obtain ⟨b, hb, rfl⟩ := hx
        obtain ⟨us, ty, hw, hcs, _⟩ := hI.cells ho hb
        have hr := rels_take len (rels_drop off hcs)
        have hthin : rels F noMu (((cs.drop off).take len).map V.thin) ((us.drop off).take len) := by
          rw [rels_iff] at hr ⊢
          refine ⟨by simpa using hr.1, fun i v u hv hu => ?_⟩
          simp only [List.getElem?_map, Option.map_eq_some_iff] at hv
          obtain ⟨v', hv', rfl⟩ := hv
          have h1 := rel_thin (hr.2 i v' u hv' hu)
          have h2 := hc.2
          rw [List.all_eq_true] at h2
          have h3 := h2 v'.thin (List.mem_map_of_mem (List.mem_of_getElem? hv'))
          simp only [Bool.and_eq_true] at h3
          exact rel_frozen _ _ h3.1 h1
        have hcells : ∀ (l : List V), l.all (fun c => c.frozen && c.isCell) = true → l.flatMap V.cellsOf = l ∧ ∀ y ∈ l, y.cellsOf.length = 1 := fun l hl => by
          induction l with
          | nil => simp
          | cons x r ih =>
            simp only [List.all_cons, Bool.and_eq_true] at hl
            have hx1 : x.cellsOf = [x] := by cases x <;> first | rfl | (simp [V.isCell] at hl)
            obtain ⟨i1, i2⟩ := ih (by simpa using hl.2)
            refine ⟨by rw [List.flatMap_cons, hx1, i1]; rfl, ?_⟩
            intro y hy
            rcases List.mem_cons.1 hy with rfl | hy
            · rw [hx1]; rfl
            · exact i2 y hy
        obtain ⟨g1, g2⟩ := hcells _ hc.2
        refine ⟨by simp only [Builtin.lenOf, hc.1, Sem.run_pure], g2, (us.drop off).take len, by rw [g1]; exact hthin, fun w' hw' n hn => ?_, oneCell_of_rels hthin (by
          have := hc.2
          rw [List.all_eq_true] at this ⊢
          intro x hx
          have := this x hx
          simp only [Bool.and_eq_true] at this
          exact this.2)⟩
        rw [hc.1] at hn
        have hl2 : ((us.drop off).take len).length = len := by rw [← rels_length hthin, hc.1]
        have := run_loads (P := P) (w := w') (b := b) (o := off) (us := ((us.drop off).take len).take n) (fun j v hj => by
          rw [cell_of_heap (hw' ▸ hw)]
          rw [List.getElem?_take] at hj
          split at hj
          · exact mem_of_take_drop hj
          · cases hj)
        rw [List.length_take, hl2, Nat.min_eq_left hn] at this
        simp only [Builtin.firstCells, Nat.mul_one]
        exact this
      · exact (fail_run h).elim
    · cases h
  · cases h

/-! ### appending -/
theorem growBy_le : ∀ (r need c : Nat), c ≤ need → 256 ≤ need → Builtin.growBy need r c ≤ 2 * need + 0
  | 0, need, c, h, _ => by simp [Builtin.growBy]; omega
  | r + 1, need, c, h, h2 => by
    unfold Builtin.growBy
    split
    · omega
    · rename_i hc
      by_cases h3 : c + (c + 768) / 4 ≤ need
      · exact growBy_le r need _ h3 h2
      · cases r with
        | zero => simp only [Builtin.growBy]; omega
        | succ r =>
          unfold Builtin.growBy
          rw [if_pos (by omega)]
          omega

theorem nextslicecap_le {need cap : Nat} (h : cap ≤ need) : Builtin.nextslicecap need cap ≤ 2 * need := by
  unfold Builtin.nextslicecap
  split
  · omega
  · split
    · omega
    · exact growBy_le 4 need cap h (by omega)

theorem run_choose_cap {need old : Nat} {e : TypeId} (hn : need < 2 ^ 63) : ∃ c, need ≤ c ∧ (choose (.appendCap need old e)).run P w = .ok c { w with drawn := w.drawn + 1 } := by
  refine ⟨(Question.appendCap need old e).cut (w.tape w.drawn (.appendCap need old e)), ?_, ?_⟩
  · simp only [Question.cut]; omega
  · simp [choose, Sem.run, Question.forced]

theorem zeroCells_length {z : Array Value} {n : Nat} : (Builtin.zeroCells z n).toList.length = n * z.size := by simp [Builtin.zeroCells]

theorem zeroSize_spec {e : TypeId} {n : Nat} (h : zeroSize P e = some n) : ∃ i z, P.info? e = some i ∧ i.zero = some z ∧ z.cells.size = n := by
  unfold zeroSize at h
  cases hi : P.info? e with
  | none => simp [hi] at h
  | some i =>
    cases hz : i.zero with
    | none => simp [hi, hz] at h
    | some z => exact ⟨i, z, rfl, hz, by simpa [hi, hz] using h⟩

theorem bytesT_info {e : TypeId} {n : Nat} (h : bytesT P e = some n) : ∃ i, P.info? e = some i ∧ i.bytes = n := by
  unfold bytesT at h
  cases hi : P.info? e with
  | none => simp [hi] at h
  | some i => exact ⟨i, rfl, by simpa [hi] using h⟩

end
end Go.Ev
