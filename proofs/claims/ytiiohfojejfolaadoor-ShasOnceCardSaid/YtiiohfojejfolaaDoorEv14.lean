/-
  Slices' literals, new rows, texts and bytes: on plain values and in memory.
-/
import Derived.Test.YtiiohfojejfolaaDoorEv13
import Derived.IntWalk
set_option linter.unusedVariables false
set_option linter.unusedSimpArgs false
namespace Go.Ev
open Go
section
variable {P : Program} {w : World} {F : Frz} {μ : Mu} {σ : Store}

theorem settle_spec {esz : Nat} {agg : Bool} {v x : V} (h : v.settle esz agg = some x) : x.cellsOf.length = esz ∧ x.cellsOf.all V.isCell = true ∧ (∀ (F : Frz) (μ : Mu) (u : Value), rel F μ v u → rel F noMu x u) ∧ (agg = false → x.cellsOf = [x]) := by
  unfold V.settle at h
  split at h
  · rename_i cs
    simp only at h
    split at h
    · rename_i hc
      cases h
      refine ⟨hc.1, ?_, fun F μ u hu => ?_, by simp⟩
      · have := hc.2
        simp only [V.cellsOf, List.all_eq_true, Bool.and_eq_true] at this ⊢
        exact fun y hy => (this y hy).2
      · simp only [rel] at hu ⊢
        obtain ⟨us, rfl, h1⟩ := hu
        refine ⟨us, rfl, ?_⟩
        have h2 := hc.2
        rw [rels_iff] at h1 ⊢
        refine ⟨by simpa using h1.1, fun i a b ha hb => ?_⟩
        simp only [List.getElem?_map, Option.map_eq_some_iff] at ha
        obtain ⟨a', ha', rfl⟩ := ha
        rw [List.all_eq_true] at h2
        have h3 := h2 a'.thin (List.mem_map_of_mem (List.mem_of_getElem? ha'))
        simp only [Bool.and_eq_true] at h3
        exact rel_frozen _ _ h3.1 (rel_thin (h1.2 i a' b ha' hb))
    · cases h
  · simp only at h
    split at h
    · rename_i hc
      cases h
      have h2 := hc.2
      simp only [Bool.and_eq_true] at h2
      have hcell : v.thin.cellsOf = [v.thin] := by cases hh : v.thin <;> first | rfl | (rw [hh] at h2; simp [V.isCell] at h2)
      refine ⟨by rw [hcell]; exact hc.1.symm, by rw [hcell]; simp [h2.2], fun F μ u hu => rel_frozen _ _ h2.1 (rel_thin hu), fun _ => hcell⟩
    · cases h
  · cases h

theorem settles_spec {esz : Nat} {agg : Bool} : ∀ {vs xs : List V}, settles esz agg vs = some xs → (∀ x ∈ xs, x.cellsOf.length = esz ∧ x.cellsOf.all V.isCell = true) ∧ ∀ (F : Frz) (μ : Mu) (us : List Value), rels F μ vs us → rels F noMu xs us
  | [], xs, h => by
    simp only [settles, Option.some.injEq] at h; subst h
    exact ⟨by simp, fun F μ us h => by simpa [rels] using h⟩
  | v :: vs, xs, h => by
    simp only [settles] at h
    split at h
    · rename_i x r h1 h2
      cases h
      obtain ⟨a1, a2, a3, _⟩ := settle_spec h1
      obtain ⟨b1, b2⟩ := settles_spec h2
      refine ⟨fun y hy => ?_, fun F μ us hu => ?_⟩
      · rcases List.mem_cons.1 hy with rfl | hy
        · exact ⟨a1, a2⟩
        · exact b1 y hy
      · obtain ⟨u, us', rfl, g1, g2⟩ := hu
        exact ⟨u, us', rfl, a3 F μ u g1, b2 F μ us' g2⟩
    · cases h

def rowParts (size : Nat) : Nat → List V → List (Nat × Nat × V)
  | _, [] => []
  | k, x :: r => (k * size, size, x) :: rowParts size (k + 1) r

theorem fillV_row {size : Nat} : ∀ (xs : List V) (k : Nat) (cs : List V), cs.length = (k + xs.length) * size → (∀ x ∈ xs, x.cellsOf.length = size ∧ x.cellsOf.all V.isCell = true) →
    fillV cs (rowParts size k xs) = some (cs.take (k * size) ++ xs.flatMap V.cellsOf)
  | [], k, cs, hl, _ => by
    simp only [rowParts, fillV, List.flatMap_nil, List.append_nil, Option.some.injEq]
    rw [List.take_of_length_le]; simp at hl; omega
  | x :: r, k, cs, hl, h => by
    obtain ⟨h1, h2⟩ := h x (by simp)
    have e1 : (k + (x :: r).length) * size = (k + 1) * size + r.length * size := by simp only [List.length_cons]; rw [← Nat.add_mul]; congr 1; omega
    have e2 : (k + 1) * size = k * size + size := by rw [Nat.add_mul, Nat.one_mul]
    simp only [rowParts, fillV]
    rw [if_pos ⟨h1, by omega, h2⟩]
    have hsl := splice_length (cs := cs) (vs := x.cellsOf) (off := k * size) (by omega)
    rw [fillV_row r (k + 1) _ (by rw [hsl, hl]; simp only [List.length_cons]; congr 1; omega) (fun y hy => h y (by simp [hy]))]
    simp only [List.flatMap_cons, Option.some.injEq]
    rw [← List.append_assoc]
    congr 1
    unfold splice
    rw [List.take_append_of_le_length (by simp; omega)]
    rw [List.take_of_length_le (by simp; omega)]

theorem good_buildSlice {t e : TypeId} {len n : Nat} {xs : List V} {parts : Array (Nat × Value)} (hI : Inv F μ σ w) (hu : P.underlying t = some (.slice e)) (hn : sizeT P e = some n) (h0 : n ≠ 0) (hz : (zeroSize P e).isSome = true) (hb : len * n ≤ 16777216)
    (hl : xs.length = len) (hx : ∀ x ∈ xs, x.cellsOf.length = n ∧ x.cellsOf.all V.isCell = true) (hp : partsRel F noMu (fun i => some (i * n, n)) (rowParts n 0 xs) parts.toList) :
    Good P (do pure (.value (← Instr.buildSlice t len parts))) F μ σ w ⟨.slc n xs .tight, []⟩ := by
  obtain ⟨m, hm⟩ := Option.isSome_iff_exists.1 hz
  obtain ⟨i, z, hi, hiz, _⟩ := zeroSize_spec hm
  have h24 : ¬ (len * n > 2 ^ 24) := by omega
  obtain ⟨row, hrl, hrun⟩ : ∃ row : Array Value, row.size = len * n ∧ (Instr.buildSlice t len parts).run P w = (match Instr.fill (fun i => some (i * n, n)) row parts.toList with
      | some cells => (do pure (.slice (some (← newRow e cells)) len len) : Sem Value)
      | none => stuck "buildSlice: a part of the wrong size").run P w := by
    by_cases h : len * n = 0
    · refine ⟨(Array.range (len * n)).map fun x => (#[] : Array Value)[x % (#[] : Array Value).size]!, by simp, ?_⟩
      simp only [Instr.buildSlice, Sem.run_bind, run_underlying hu, Result.andThen_ok, run_sizeOf' hn, h24, if_false, if_pos h, Sem.run_pure]
      generalize Instr.fill _ _ parts.toList = q
      cases q <;> rfl
    · refine ⟨(Array.range (len * n)).map fun x => z.cells[x % z.cells.size]!, by simp, ?_⟩
      simp only [Instr.buildSlice, Sem.run_bind, run_underlying hu, Result.andThen_ok, run_sizeOf' hn, h24, if_false, if_neg h, Sem.run_pure, zeroValue, typeInfo, run_program, hi, hiz]
      generalize Instr.fill _ _ parts.toList = q
      cases q <;> rfl
  have hzs : rels F noMu (List.replicate (len * n) V.undef) row.toList := by
    rw [rels_iff]
    refine ⟨by simp [hrl], fun i v u hv _ => ?_⟩
    rw [List.getElem?_replicate] at hv
    split at hv
    · cases hv; simp [rel]
    · cases hv
  have hfv := fillV_row (size := n) xs 0 (List.replicate (len * n) V.undef) (by simp [hl]) hx
  simp only [Nat.zero_mul, List.take_zero, List.nil_append] at hfv
  obtain ⟨cells', hf, hr⟩ := run_fill hzs hp hfv
  have hcell : ∀ u ∈ cells'.toList, u.oneCell' = true := oneCell_of_rels hr (by
    rw [List.all_eq_true]
    intro y hy
    obtain ⟨x, hx', hyx⟩ := List.mem_flatMap.1 hy
    have := (hx x hx').2
    rw [List.all_eq_true] at this
    exact this y hyx)
  have hpost := Post.newRow (w' := { w with heap := w.heap.push (.cells cells' e) }) hI cells'.toList [] e (0, 0) hcell (by simp) rfl rfl
  refine ⟨.slice (some ⟨w.heap.size, 0, none⟩) len len, _, _, μ, .inl ?_, hpost, ?_⟩
  · rw [Sem.run_bind, hrun, hf]
    simp only [newRow, Sem.run_bind, run_newObj, Result.andThen_ok, Sem.run_pure]
  · simp only [rel]
    refine ⟨some ⟨w.heap.size, 0, none⟩, len, by rw [hl], ⟨.inr rfl, ?_⟩, by simp [ownRel, hl]⟩
    rw [frzE_iff]
    exact ⟨fun x hx' => (hx x hx').1, frz_put hpost.2.1.le hr⟩

theorem flatten_replicate {α : Type} (zs : List α) (m : Nat) (hm : zs.length = m) (d : α) : ∀ l : Nat, (List.range (l * m)).map (fun i => zs.getD (i % m) d) = (List.replicate l zs).flatten
  | 0 => by simp
  | l + 1 => by
    rw [Nat.add_mul, Nat.one_mul, List.range_add, List.map_append, flatten_replicate zs m hm d l, List.replicate_succ', List.flatten_append]
    congr 1
    simp only [List.map_map]
    apply List.ext_getElem?
    intro i
    by_cases hi : i < m
    · simp [hi, Nat.mod_eq_of_lt hi, hm]
    · simp [show ¬ i < m from hi, List.getElem?_eq_none (show zs.length ≤ i by omega)]

theorem good_makeSlice {t e : TypeId} {n by_ : Nat} {agg : Bool} {zc : List V} {z : V} {kl kc : IntKind} {l : Int} (hI : Inv F μ σ w) (hu : P.underlying t = some (.slice e)) (hn : sizeT P e = some n) (h0 : n ≠ 0) (hb : bytesT P e = some by_)
    (hz : zeroT P e = some zc) (hzl : zc.length = n) (h1 : agg = false → n = 1) (hs : (V.mk agg zc).settle n agg = some z) (hl0 : 0 ≤ l) (hlb : l * by_ ≤ 1099511627776) (hll : l ≤ 1099511627776) :
    Good P (do pure (.value (← Instr.makeSlice t (.int kl l) (.int kc l)))) F μ σ w ⟨.slc n (List.replicate l.toNat z) .tight, []⟩ := by
  obtain ⟨i, v, hi, hiv, hrels⟩ := zeroT_spec hz
  obtain ⟨i', hi', hby⟩ := bytesT_info hb
  rw [hi] at hi'; cases hi'
  obtain ⟨s1, s2, s3, s4⟩ := settle_spec hs
  have hzrel : rels F noMu z.cellsOf v.cells.toList := by
    have hc := hrels F noMu
    have hvl := rels_length hc
    have : rel F noMu (V.mk agg zc) (if agg then .agg v.cells.toList.toArray else v.cells.toList.headD Go.undef) := rel_mk hc (by intro h; rw [h] at hzl; simp at hzl; omega)
    have h2 := s3 F noMu _ this
    have h3 : z ≠ .undef := by rintro rfl; simp [V.cellsOf, V.isCell] at s2
    cases agg with
    | true => simpa [Value.cells] using rel_cells h2 h3
    | false =>
      have := h1 rfl
      subst this
      obtain ⟨a, ha⟩ := List.length_eq_one_iff.1 (hvl.symm.trans hzl)
      rw [ha] at h2 ⊢
      rw [s4 rfl]
      exact ⟨a, [], rfl, by simpa using h2, rfl⟩
  have hsz : v.cells.size = n := by have := rels_length hzrel; rw [s1] at this; simpa using this.symm
  have hw64 : IntKind.i64.wrap l = l := IntWalk.i64_in l (by omega)
  have hrow : (Array.range (l.toNat * n)).map (v.cells[· % v.cells.size]!) = ((List.replicate l.toNat v.cells.toList).flatten).toArray := by
    rw [← flatten_replicate v.cells.toList n (by simpa using hsz) default]
    apply Array.ext'
    simp only [Array.toList_map, Array.toList_range]
    apply List.map_congr_left
    intro a _
    rw [hsz]
    simp [getElem!_def, List.getD_eq_getElem?_getD]
    cases v.cells[a % n]? <;> rfl
  have hrel : rels F noMu ((List.replicate l.toNat z).flatMap V.cellsOf) ((List.replicate l.toNat v.cells.toList).flatten) := by
    generalize l.toNat = q
    induction q with
    | zero => simp [rels]
    | succ q ih => simp only [List.replicate_succ, List.flatMap_cons, List.flatten_cons]; exact rels_append hzrel ih
  have hcell : ∀ u ∈ (List.replicate l.toNat v.cells.toList).flatten, u.oneCell' = true := oneCell_of_rels hrel (by
    rw [List.all_eq_true]
    intro y hy
    obtain ⟨x, hx', hyx⟩ := List.mem_flatMap.1 hy
    rw [List.mem_replicate] at hx'
    rw [hx'.2] at hyx
    rw [List.all_eq_true] at s2
    exact s2 y hyx)
  have hpost := Post.newRow (w' := { w with heap := w.heap.push (.cells ((List.replicate l.toNat v.cells.toList).flatten).toArray e) }) hI _ [] e (0, 0) hcell (by simp) rfl rfl
  refine ⟨.slice (some ⟨w.heap.size, 0, none⟩) l.toNat l.toNat, _, _, μ, .inl ?_, hpost, ?_⟩
  · have t1 : ((i.bytes : Int) * l > 2 ^ 48) = False := by
      rw [hby, Int.mul_comm]
      have : (2 : Int) ^ 48 = 281474976710656 := by decide
      simp; omega
    have t0 : (l < 0) = False := by simp; omega
    simp only [Instr.makeSlice, Sem.run_bind, run_underlying hu, Result.andThen_ok, asInt, asIntOf, Sem.run_pure, typeInfo, run_program, hi, hw64, t0, t1, decide_false, Bool.or_self, Bool.false_or, Int.lt_irrefl, Bool.or_false, gt_iff_lt, Bool.false_eq_true, if_false, run_askRoom, run_sizeOf' hn]
    by_cases hl00 : l.toNat * n = 0
    · have : l.toNat = 0 := by
        rcases Nat.mul_eq_zero.1 hl00 with h | h
        · exact h
        · exact absurd h h0
      have hr0 : Array.range 0 = #[] := by apply Array.ext'; simp
      simp [this, newRow, hr0]
    · simp only [hl00, if_false, Sem.run_bind, zeroValue, typeInfo, run_program, Result.andThen_ok, hi, hiv, Sem.run_pure, hrow, newRow, run_newObj]
  · simp only [rel]
    refine ⟨some ⟨w.heap.size, 0, none⟩, l.toNat, by simp, ⟨.inr rfl, ?_⟩, by simp [ownRel]⟩
    rw [frzE_iff]
    exact ⟨fun x hx' => by rw [List.mem_replicate] at hx'; rw [hx'.2]; exact s1, frz_put hpost.2.1.le hrel⟩

/-- So many cells of zero that may be written. -/
theorem good_makeRow {t e : TypeId} {k : IntKind} {zv : Int} {kl kc : IntKind} {l c : Int} {dst : Nat} (hI : Inv F μ σ w) (hu : P.underlying t = some (.slice e)) (hn : sizeT P e = some 1) (hb : bytesT P e = some 1)
    (hz : zeroT P e = some [.int k zv]) (hl0 : 0 ≤ l) (hlc : l ≤ c) (hll : c ≤ 1099511627776) (hk : σ.get (.loc dst 0) = none) :
    Good P (do pure (.value (← Instr.makeSlice t (.int kl l) (.int kc c)))) F μ σ w ⟨.view (.loc dst 0) 1 0 l.toNat c.toNat, [(.loc dst 0, .cells (List.replicate c.toNat (.int k zv)))]⟩ := by
  obtain ⟨i, v, hi, hiv, hrels⟩ := zeroT_spec hz
  obtain ⟨i', hi', hby⟩ := bytesT_info hb
  rw [hi] at hi'; cases hi'
  have hv : v.cells = #[.int k zv] := by
    have := hrels F noMu
    simp only [rels, rel] at this
    obtain ⟨u, us', h1, rfl, rfl⟩ := this
    apply Array.ext'
    simpa using h1
  have hw64 : IntKind.i64.wrap l = l := IntWalk.i64_in l (by omega)
  have hwc : IntKind.i64.wrap c = c := IntWalk.i64_in c (by omega)
  have hrow : (Array.range (c.toNat * 1)).map (v.cells[· % v.cells.size]!) = (List.replicate c.toNat (Value.int k zv)).toArray := by
    rw [hv]
    apply Array.ext'
    simp only [Array.toList_map, Array.toList_range]
    apply List.ext_getElem
    · simp
    · intro i h1 h2
      simp [Nat.mod_one]
  have hnew : ∀ off, F ⟨w.heap.size, off, none⟩ = none := fun off => by
    cases hc : F ⟨w.heap.size, off, none⟩ with
    | none => rfl
    | some u => have := hI.frz_lt hc; simp at this
  have hrel : ∀ μ' : Mu, rels F μ' (List.replicate c.toNat (V.int k zv)) (List.replicate c.toNat (Value.int k zv)) := fun μ' => by
    generalize c.toNat = q
    induction q with
    | zero => simp [rels]
    | succ q ih => simp only [List.replicate_succ]; exact ⟨_, _, rfl, by simp only [rel], ih⟩
  have hpost := Post.newBlk (w' := { w with heap := w.heap.push (.cells (List.replicate c.toNat (Value.int k zv)).toArray e) }) hI hk (o := .cells (List.replicate c.toNat (.int k zv))) (g := .cells (List.replicate c.toNat (Value.int k zv)).toArray e) rfl rfl rfl
    (fun μ' _ => ⟨_, e, push_get rfl, hrel μ', hnew⟩)
  refine ⟨.slice (some ⟨w.heap.size, 0, none⟩) l.toNat c.toNat, _, _, _, .inl ?_, hpost, ?_⟩
  · have t1 : ((i.bytes : Int) * c > 2 ^ 48) = False := by
      rw [hby, Int.mul_comm]
      have : (2 : Int) ^ 48 = 281474976710656 := by decide
      simp; omega
    have t0 : (l < 0) = False := by simp; omega
    have t2 : (c < 0) = False := by simp; omega
    have t3 : (c < l) = False := by simp; omega
    simp only [Instr.makeSlice, Sem.run_bind, run_underlying hu, Result.andThen_ok, asInt, asIntOf, Sem.run_pure, typeInfo, run_program, hi, hw64, hwc, t0, t2, t3, t1, decide_false, Bool.or_self, Bool.false_or, Int.lt_irrefl, Bool.or_false, gt_iff_lt, Bool.false_eq_true, if_false, run_askRoom, run_sizeOf' hn]
    by_cases hl00 : c.toNat * 1 = 0
    · have : c.toNat = 0 := by omega
      have hr0 : Array.range 0 = #[] := by apply Array.ext'; simp
      simp [this, newRow, hr0]
    · simp only [hl00, if_false, Sem.run_bind, zeroValue, typeInfo, run_program, Result.andThen_ok, hi, hiv, Sem.run_pure, hrow, newRow, run_newObj]
  · simp only [rel]
    exact ⟨w.heap.size, Mu.set_same .., rfl⟩

end
end Go.Ev
