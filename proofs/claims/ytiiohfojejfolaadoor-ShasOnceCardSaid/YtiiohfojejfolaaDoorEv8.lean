/-
  Values of numbers, truths and texts, held against each other; keys of maps.
-/
import Derived.Test.YtiiohfojejfolaaDoorEv7
import Derived.Laws.StructEq
import Derived.ChangeKeysEq
set_option linter.unusedVariables false
set_option linter.unusedSimpArgs false
namespace Go.Ev
open Go
section
variable {P : Program} {w : World} {F : Frz} {μ : Mu} {σ : Store}

theorem eqCells_split : ∀ (k : Nat) {xs ys : List V} {r : Bool}, eqCells xs ys = some r → k ≤ xs.length →
    (eqCells (xs.take k) (ys.take k) = some false ∧ r = false) ∨ (eqCells (xs.take k) (ys.take k) = some true ∧ eqCells (xs.drop k) (ys.drop k) = some r)
  | 0, xs, ys, r, h, _ => .inr ⟨by simp [eqCells], by simpa using h⟩
  | k + 1, [], _, _, _, hk => by simp at hk
  | k + 1, x :: xs, [], r, h, _ => by simp [eqCells] at h
  | k + 1, x :: xs, y :: ys, r, h, hk => by
    simp only [eqCells] at h
    simp only [List.take_succ_cons, List.drop_succ_cons, eqCells]
    split at h
    · exact eqCells_split k h (by simpa using hk)
    · cases h
      exact .inl ⟨rfl, rfl⟩
    · cases h

/-- A value out of its cells. -/
def mkv (P : Program) (t : TypeId) (us : List Value) : Value := if aggT P t then .agg us.toArray else us.headD Go.undef

theorem run_part {t : TypeId} {n off : Nat} {us : List Value} (ht : sizeT P t = some n) (h1 : aggT P t = false → n = 1) (hl : off + n ≤ us.length) :
    (part t us.toArray off).run P w = .ok (mkv P t ((us.drop off).take n)) w := by
  unfold part mkv
  rw [Sem.run_bind, run_isAgg ht]
  cases hg : aggT P t with
  | true =>
    rw [Result.andThen_ok]
    simp only [if_true, Sem.run_bind, run_sizeOf' ht, Result.andThen_ok]
    simp only [Sem.run_pure, Result.ok.injEq, Value.agg.injEq, and_true]
    apply Array.ext'
    simp [List.extract_eq_take_drop]
  | false =>
    have := h1 hg
    subst this
    have hlt : off < us.length := by omega
    simp only [Bool.false_eq_true, if_false]
    rw [Result.andThen_ok]
    rw [List.drop_eq_getElem_cons hlt]
    simp only [List.getElem?_toArray, List.getElem?_eq_getElem hlt, Sem.run_pure, List.take_succ_cons, List.headD_cons, Bool.false_eq_true, if_false]

theorem flatEq_size : ∀ {n : Nat} {t : TypeId}, flatEq P n t = true → ∃ m, sizeT P t = some m
  | 0, _, h => by simp [flatEq] at h
  | n + 1, t, h => by
    unfold sizeT
    unfold flatEq at h
    cases hu : P.underlying t with
    | none => simp [hu] at h
    | some d =>
      simp only [Option.isSome_some, if_true]
      have : ∃ i, P.info? t = some i := by
        unfold Program.underlying at hu
        cases hi : P.info? t with
        | none => simp [hi] at hu
        | some i => exact ⟨i, rfl⟩
      obtain ⟨i, hi⟩ := this
      exact ⟨i.size, by simp [hi]⟩

def EqOK (P : Program) (F : Frz) (μ : Mu) (w : World) (d : Nat) (t : TypeId) (m : Nat) : Prop :=
  ∀ (xs ys : List V) (us vs : List Value) (r : Bool), rels F μ xs us → rels F μ ys vs → xs.length = m → ys.length = m → eqCells xs ys = some r → (Op.equalIn d t (mkv P t us) (mkv P t vs)).run P w = .ok r w

theorem eqCells_length : ∀ {xs ys : List V}, eqCells xs ys = some true → xs.length = ys.length
  | [], [], _ => rfl
  | [], _ :: _, h => by simp [eqCells] at h
  | _ :: _, [], h => by simp [eqCells] at h
  | x :: xs, y :: ys, h => by
    simp only [eqCells] at h
    split at h
    · simp [eqCells_length h]
    · cases h
    · cases h

theorem run_eqItems {d : Nat} {e : TypeId} {m : Nat} (he : sizeT P e = some m) (h1 : aggT P e = false → m = 1) (IH : EqOK P F μ w d e m) {us vs : List Value} {xs ys : List V} (hx : rels F μ xs us) (hy : rels F μ ys vs) :
    ∀ (n i : Nat) {r : Bool}, (i + n) * m ≤ xs.length → (i + n) * m ≤ ys.length → eqCells ((xs.drop (i * m)).take (n * m)) ((ys.drop (i * m)).take (n * m)) = some r →
      (Op.eqItems d e m us.toArray vs.toArray (List.range' i n)).run P w = .ok r w
  | 0, i, r, _, _, h => by simp [eqCells] at h; subst h; simp [Op.eqItems]
  | n + 1, i, r, hl, hl', h => by
    have e1 : (i + (n + 1)) * m = i * m + m + n * m := by rw [Nat.add_mul, Nat.add_mul, Nat.one_mul]; omega
    have e2 : (n + 1) * m = m + n * m := by rw [Nat.add_mul, Nat.one_mul]; omega
    have e3 : (i + 1) * m = i * m + m := by rw [Nat.add_mul, Nat.one_mul]
    have lx := rels_length hx
    have ly := rels_length hy
    have p1 := run_part (P := P) (w := w) he h1 (off := i * m) (us := us) (by omega)
    have p2 := run_part (P := P) (w := w) he h1 (off := i * m) (us := vs) (by omega)
    simp only [List.range'_succ, Op.eqItems, Sem.run_bind, p1, p2, Result.andThen_ok]
    rw [e1] at hl hl'
    have hs := eqCells_split m h (by simp; omega)
    have t1 : ∀ (l : List V), ((l.drop (i * m)).take ((n + 1) * m)).take m = (l.drop (i * m)).take m := fun l => by rw [List.take_take]; congr 1; omega
    have t2 : ∀ (l : List V), ((l.drop (i * m)).take ((n + 1) * m)).drop m = (l.drop ((i + 1) * m)).take (n * m) := fun l => by
      rw [List.drop_take, List.drop_drop]; congr 1
      · omega
      · rw [e3]
    rw [t1, t1, t2, t2] at hs
    rcases hs with ⟨hf, rfl⟩ | ⟨ht, hr⟩
    · have := IH _ _ _ _ _ (rels_take m (rels_drop (i * m) hx)) (rels_take m (rels_drop (i * m) hy)) (by simp; omega) (by simp; omega) hf
      simp [this]
    · have := IH _ _ _ _ _ (rels_take m (rels_drop (i * m) hx)) (rels_take m (rels_drop (i * m) hy)) (by simp; omega) (by simp; omega) ht
      simp only [this, Result.andThen_ok, Bool.not_true, Bool.false_eq_true, if_false]
      exact run_eqItems he h1 IH hx hy n (i + 1) (by rw [show (i + 1 + n) * m = i * m + m + n * m from by rw [Nat.add_mul, e3]]; omega) (by rw [show (i + 1 + n) * m = i * m + m + n * m from by rw [Nat.add_mul, e3]]; omega) hr

theorem run_eqFields' {d : Nat} {us vs : List Value} {xs ys : List V} (hx : rels F μ xs us) (hy : rels F μ ys vs) (hxy : xs.length = ys.length) :
    ∀ (fs : List Field) (o : Nat) {r : Bool}, (∀ f ∈ fs, f.name ≠ "_" ∧ ∃ m, sizeT P f.type = some m ∧ (aggT P f.type = false → m = 1) ∧ EqOK P F μ w d f.type m) → flatEq.contig P o fs = true →
      o + (fs.map fun f => (sizeT P f.type).getD 0).sum = xs.length → eqCells (xs.drop o) (ys.drop o) = some r → (Op.eqFields d us.toArray vs.toArray fs).run P w = .ok r w
  | [], o, r, _, _, hl, h => by
    simp at hl; subst hl
    have : ys.drop xs.length = [] := by rw [hxy]; simp
    rw [this] at h
    simp [eqCells] at h; subst h; simp [Op.eqFields]
  | f :: fs, o, r, hall, hc, hl, h => by
    obtain ⟨hn, m, hm, h1, IH⟩ := hall f (by simp)
    simp only [flatEq.contig, Bool.and_eq_true, beq_iff_eq] at hc
    obtain ⟨ho, hc⟩ := hc
    rw [hm, Option.getD_some] at hc
    simp only [List.map_cons, List.sum_cons, hm, Option.getD_some] at hl
    have lx := rels_length hx
    have ly := rels_length hy
    have p1 := run_part (P := P) (w := w) hm h1 (off := o) (us := us) (by omega)
    have p2 := run_part (P := P) (w := w) hm h1 (off := o) (us := vs) (by omega)
    simp only [Op.eqFields, hn, ne_eq, not_false_eq_true, if_true, Sem.run_bind, ho, p1, p2, Result.andThen_ok]
    have hs := eqCells_split m h (by simp; omega)
    rw [List.drop_drop, List.drop_drop] at hs
    rcases hs with ⟨hf, rfl⟩ | ⟨ht, hr⟩
    · have := IH _ _ _ _ _ (rels_take m (rels_drop o hx)) (rels_take m (rels_drop o hy)) (by simp; omega) (by simp; omega) hf
      simp [this]
    · have := IH _ _ _ _ _ (rels_take m (rels_drop o hx)) (rels_take m (rels_drop o hy)) (by simp; omega) (by simp; omega) ht
      simp only [this, Result.andThen_ok, Bool.not_true, Bool.false_eq_true, if_false]
      exact run_eqFields' hx hy hxy fs (o + m) (fun g hg => hall g (by simp [hg])) hc (by omega) hr

theorem eqCells_one {x y : V} {r : Bool} {u v : Value} (h : eqCells [x] [y] = some r) (hx : rel F μ x u) (hy : rel F μ y v) :
    ∃ k a b, u = .int k a ∧ v = .int k b ∧ r = (a == b) := by
  have h' : eqCell x y = some r := by
    simp only [eqCells] at h
    split at h
    · rename_i he; simp at h; subst h; exact he
    · rename_i he; simp at h; subst h; exact he
    · cases h
  unfold eqCell at h'
  split at h'
  · simp only [rel] at hx hy; subst hx hy
    split at h'
    · rename_i hk; subst hk; cases h'; exact ⟨_, _, _, rfl, rfl, rfl⟩
    · cases h'
  · cases h'

theorem flatEq_agg {n : Nat} {t : TypeId} {m : Nat} (h : flatEq P n t = true) (hm : sizeT P t = some m) : aggT P t = false → m = 1 := by
  intro hg
  cases n with
  | zero => simp [flatEq] at h
  | succ n =>
    unfold flatEq at h
    unfold aggT at hg
    split at h
    · simp at h; rw [hm] at h; cases h; rfl
    · rename_i hu; simp [hu] at hg
    · rename_i hu; simp [hu] at hg
    · cases h

theorem run_equalIn_flat : ∀ (n : Nat) (t : TypeId) (m : Nat), flatEq P n t = true → sizeT P t = some m → ∀ d, EqOK P F μ w (d + n) t m
  | 0, _, _, h, _, _ => by simp [flatEq] at h
  | n + 1, t, m, h, hm, d => by
    intro xs ys us vs r hx hy lx ly he
    have h0 := h
    unfold flatEq at h
    unfold mkv
    split at h
    · rename_i k hu
      have hg : aggT P t = false := by simp [aggT, hu]
      have := flatEq_agg h0 hm hg
      subst this
      simp only [hg, Bool.false_eq_true, if_false]
      obtain ⟨x, rfl⟩ := List.length_eq_one_iff.1 lx
      obtain ⟨y, rfl⟩ := List.length_eq_one_iff.1 ly
      simp only [rels] at hx hy
      obtain ⟨u, _, rfl, hu', rfl⟩ := hx
      obtain ⟨v, _, rfl, hv', rfl⟩ := hy
      obtain ⟨k', a, b, rfl, rfl, rfl⟩ := eqCells_one he hu' hv'
      exact run_equalIn_int w (d + n) t k' _ a b hu
    · rename_i len e hu
      have hg : aggT P t = true := by simp [aggT, hu]
      simp only [hg, if_true]
      simp only [Bool.and_eq_true, beq_iff_eq] at h
      obtain ⟨he', hsz⟩ := h
      obtain ⟨m', hm'⟩ := flatEq_size he'
      rw [hm, hm'] at hsz
      simp at hsz
      subst hsz
      obtain ⟨i, _, hi, hi', _⟩ := sizeT_info hm'
      rw [show d + (n + 1) = (d + n) + 1 from rfl, run_equalIn_array w (d + n) _ _ hu hi]
      have hc : P.cellsOf e = m' := by simp [Program.cellsOf, hi, hi']
      rw [hc, List.range_eq_range']
      exact run_eqItems hm' (flatEq_agg he' hm') (run_equalIn_flat n e m' he' hm' d) hx hy len 0 (by rw [Nat.zero_add]; omega) (by rw [Nat.zero_add]; omega) (by
        simp only [Nat.zero_mul, List.drop_zero]
        rw [List.take_of_length_le (by omega), List.take_of_length_le (by omega)]; exact he)
    · rename_i fs hu
      have hg : aggT P t = true := by simp [aggT, hu]
      simp only [hg, if_true]
      simp only [Bool.and_eq_true, beq_iff_eq, Bool.not_eq_true', List.all_eq_true, bne_iff_ne, ne_eq] at h
      obtain ⟨⟨⟨hs, hall⟩, hc⟩, hsz⟩ := h
      rw [hm] at hsz
      simp at hsz
      have hfs : P.fieldsOf t = fs := by simp [Program.fieldsOf, hu]
      rw [show d + (n + 1) = (d + n) + 1 from rfl, run_equalIn_struct w (d + n) t _ _ (by rw [hfs]; exact hu) hs, hfs]
      exact run_eqFields' hx hy (by omega) fs.toList 0 (fun f hf => by
        obtain ⟨h1, h2⟩ := hall f hf
        obtain ⟨m', hm'⟩ := flatEq_size h2
        exact ⟨h1, m', hm', flatEq_agg h2 hm', run_equalIn_flat n f.type m' h2 hm' d⟩) hc (by simp; omega) (by simpa using he)
    · cases h

end
end Go.Ev
