/-
  Maps, on plain values and in memory.
-/
import Derived.Test.YtiiohfojejfolaaDoorEv11
set_option linter.unusedVariables false
set_option linter.unusedSimpArgs false
namespace Go.Ev
open Go
section
variable {P : Program} {w : World} {F : Frz} {μ : Mu} {σ : Store}

theorem forIn_range_ok {f : Nat → Sem PUnit} : ∀ (n i : Nat), (∀ j, i ≤ j → j < i + n → (f j).run P w = .ok ⟨⟩ w) →
    (forIn (List.range' i n) PUnit.unit (fun j _ => do f j; pure (ForInStep.yield PUnit.unit)) : Sem PUnit).run P w = .ok ⟨⟩ w
  | 0, i, _ => by simp
  | n + 1, i, h => by
    rw [List.range'_succ, List.forIn_cons]
    simp only [Sem.run_bind, h i (Nat.le_refl _) (by omega), Result.andThen_ok, Sem.run_pure]
    exact forIn_range_ok n (i + 1) (fun j h1 h2 => h j (by omega) (by omega))

theorem run_checkKey_flat (em : Bool) : ∀ (n : Nat) (t : TypeId) (m : Nat), flatEq P n t = true → sizeT P t = some m → ∀ (d : Nat) (us : List Value), us.length = m →
    (Instr.checkKey em (d + n) t (mkv P t us)).run P w = .ok () w
  | 0, _, _, h, _, _, _, _ => by simp [flatEq] at h
  | n + 1, t, m, h, hm, d, us, hl => by
    have h0 := h
    unfold flatEq at h
    rw [show d + (n + 1) = (d + n) + 1 from rfl]
    unfold mkv Instr.checkKey
    split at h
    · rename_i k hu
      have hg : aggT P t = false := by simp [aggT, hu]
      simp only [Sem.run_bind, run_underlying hu, Result.andThen_ok, Sem.run_pure]
    · rename_i len e hu
      have hg : aggT P t = true := by simp [aggT, hu]
      simp only [Bool.and_eq_true, beq_iff_eq] at h
      obtain ⟨he', hsz⟩ := h
      obtain ⟨m', hm'⟩ := flatEq_size he'
      rw [hm, hm'] at hsz
      simp at hsz
      simp only [hg, if_true, Sem.run_bind, run_underlying hu, Result.andThen_ok]
      simp only [Std.Legacy.Range.forIn_eq_forIn_range', Std.Legacy.Range.size, Nat.sub_zero, Nat.add_one_sub_one, Nat.div_one]
      have := forIn_range_ok (P := P) (w := w) (f := fun i => do
        let x ← sizeOf e
        let y ← part e us.toArray (i * x)
        Instr.checkKey em (d + n) e y) len 0 (fun j _ hj => by
          have hle : (j + 1) * m' ≤ len * m' := Nat.mul_le_mul_right m' (by omega)
          have e3 : (j + 1) * m' = j * m' + m' := by rw [Nat.add_mul, Nat.one_mul]
          simp only [Sem.run_bind, run_sizeOf' hm', Result.andThen_ok, run_part (P := P) (w := w) hm' (flatEq_agg he' hm') (off := j * m') (us := us) (by omega)]
          exact run_checkKey_flat em n e m' he' hm' d _ (by simp; omega))
      simp only [bind_assoc] at this ⊢
      rw [this]; rfl
    · rename_i fs hu
      have hg : aggT P t = true := by simp [aggT, hu]
      simp only [Bool.and_eq_true, beq_iff_eq, Bool.not_eq_true', List.all_eq_true, bne_iff_ne, ne_eq] at h
      obtain ⟨⟨⟨hs, hall⟩, hc⟩, hsz⟩ := h
      rw [hm] at hsz
      simp at hsz
      simp only [hg, if_true, Sem.run_bind, run_underlying hu, Result.andThen_ok]
      rw [← Array.forIn_toList]
      have key : ∀ (l : List Field) (o : Nat), (∀ f ∈ l, f.name ≠ "_" ∧ flatEq P n f.type = true) → flatEq.contig P o l = true → o + (l.map fun f => (sizeT P f.type).getD 0).sum = us.length →
          (forIn l PUnit.unit (fun f _ => do
            if f.name ≠ "_" then
              let y ← part f.type us.toArray f.offset
              Instr.checkKey em (d + n) f.type y
              pure (ForInStep.yield PUnit.unit)
            else pure (ForInStep.yield PUnit.unit)) : Sem PUnit).run P w = .ok ⟨⟩ w := by
        intro l
        induction l with
        | nil => intro o _ _ _; simp
        | cons f r ih =>
          intro o ha hcc hsum
          obtain ⟨hn, hfl⟩ := ha f (by simp)
          obtain ⟨m', hm'⟩ := flatEq_size hfl
          simp only [flatEq.contig, Bool.and_eq_true, beq_iff_eq, hm', Option.getD_some] at hcc
          simp only [List.map_cons, List.sum_cons, hm', Option.getD_some] at hsum
          rw [List.forIn_cons]
          simp only [hn, ne_eq, not_false_eq_true, if_true, Sem.run_bind, hcc.1, run_part (P := P) (w := w) hm' (flatEq_agg hfl hm') (off := o) (us := us) (by omega), Result.andThen_ok,
            run_checkKey_flat em n f.type m' hfl hm' d _ (show ((us.drop o).take m').length = m' by simp; omega), Sem.run_pure]
          exact ih (o + m') (fun g hg => ha g (by simp [hg])) hcc.2 (by omega)
      have := key fs.toList 0 (fun f hf => hall f hf) hc (by simp; omega)
      rw [this]; rfl
    · cases h

theorem keyForm_spec {kt : TypeId} {kf : Option Nat} (h : keyForm P kt = some kf) : flatEq P 20 kt = true ∧ ((∃ n, kf = some n ∧ aggT P kt = true ∧ sizeT P kt = some n) ∨ (kf = none ∧ aggT P kt = false)) := by
  unfold keyForm at h
  split at h
  · rename_i hf
    refine ⟨hf, ?_⟩
    split at h
    · rename_i hg
      simp only [Option.map_eq_some_iff] at h
      obtain ⟨n, hn, rfl⟩ := h
      exact .inl ⟨n, rfl, hg, hn⟩
    · rename_i hg
      cases h
      exact .inr ⟨rfl, by simpa using hg⟩
  · cases h

theorem flatEq_notAgg {n : Nat} {t : TypeId} (h : flatEq P n t = true) (hg : aggT P t = false) : ∃ k, P.underlying t = some (.int k) := by
  cases n with
  | zero => simp [flatEq] at h
  | succ n =>
    unfold flatEq at h
    unfold aggT at hg
    split at h
    · rename_i k hu; exact ⟨k, hu⟩
    · rename_i hu; simp [hu] at hg
    · rename_i hu; simp [hu] at hg
    · cases h

/-- A key's value in memory: its cells. -/
theorem key_cells {kt : TypeId} {kf : Option Nat} {k : V} {u : Value} (h : keyForm P kt = some kf) (hk : keyOk kf k = true) (hr : rel F μ k u) :
    ∃ m us, sizeT P kt = some m ∧ us.length = m ∧ u = mkv P kt us ∧ rels F μ k.cellsOf us := by
  obtain ⟨hf, ⟨n, rfl, hg, hn⟩ | ⟨rfl, hg⟩⟩ := keyForm_spec h
  · cases k <;> simp only [keyOk, Bool.false_eq_true] at hk
    rename_i cs
    simp only [Bool.and_eq_true, decide_eq_true_eq] at hk
    simp only [rel] at hr
    obtain ⟨us, rfl, hc⟩ := hr
    exact ⟨n, us, hn, by rw [← rels_length hc]; exact hk.1, by simp [mkv, hg], hc⟩
  · cases k <;> simp only [keyOk, Bool.false_eq_true] at hk
    rename_i kk nn
    simp only [rel] at hr
    subst hr
    obtain ⟨m, hm⟩ := flatEq_size hf
    have := flatEq_agg hf hm hg
    subst this
    exact ⟨1, [Value.int kk nn], hm, rfl, by simp [mkv, hg], by simp [V.cellsOf, rels, rel]⟩

theorem run_checkKey' {kt : TypeId} {kf : Option Nat} {k : V} {u : Value} (em : Bool) (h : keyForm P kt = some kf) (hk : keyOk kf k = true) (hr : rel F μ k u) : (Instr.checkKey em 10000 kt u).run P w = .ok () w := by
  obtain ⟨m, us, hm, hl, rfl, _⟩ := key_cells h hk hr
  exact run_checkKey_flat em 20 kt m (keyForm_spec h).1 hm 9980 us hl

theorem eqKey_cells {kf : Option Nat} {x y : V} {r : Bool} (h : eqKey kf x y = some r) : eqCells x.cellsOf y.cellsOf = some r := by
  unfold eqKey at h
  split at h
  · simp only [V.cellsOf, eqCells, h]; cases r <;> rfl
  · split at h
    · exact h
    · cases h
  · cases h

theorem run_equal_key {kt : TypeId} {kf : Option Nat} {x y : V} {u v : Value} {r : Bool} (h : keyForm P kt = some kf) (he : eqKey kf x y = some r) (hx : rel F μ x u) (hy : rel F μ y v) :
    (Op.equal kt u v).run P w = .ok r w := by
  obtain ⟨hf, hc⟩ := keyForm_spec h
  obtain ⟨m, hm⟩ := flatEq_size hf
  have key : ∀ us vs, rels F μ x.cellsOf us → rels F μ y.cellsOf vs → x.cellsOf.length = m → y.cellsOf.length = m → (Op.equal kt (mkv P kt us) (mkv P kt vs)).run P w = .ok r w := fun us vs h1 h2 h3 h4 =>
    run_equalIn_flat 20 kt m hf hm 9980 _ _ us vs r h1 h2 h3 h4 (eqKey_cells he)
  unfold eqKey at he
  split at he
  · rcases hc with ⟨n, hn, _⟩ | ⟨_, hg⟩
    · cases hn
    have := flatEq_agg hf hm hg
    subst this
    simp only [rel] at hx hy
    subst hx hy
    have := key [_] [_] (by simp only [V.cellsOf, rels, rel]; exact ⟨_, _, rfl, rfl, rfl⟩) (by simp only [V.cellsOf, rels, rel]; exact ⟨_, _, rfl, rfl, rfl⟩) rfl rfl
    simpa [mkv, hg] using this
  · split at he
    · rename_i n xs ys hl
      rcases hc with ⟨n', hn, hg, hs⟩ | ⟨hn, _⟩
      · cases hn
        rw [hm] at hs; cases hs
        simp only [rel] at hx hy
        obtain ⟨us, rfl, h1⟩ := hx
        obtain ⟨vs, rfl, h2⟩ := hy
        have := key us vs h1 h2 hl.1 hl.2
        simpa [mkv, hg] using this
      · cases hn
    · cases he
  · cases he

/-- Where a key stands. -/
def posK (kf : Option Nat) (k : V) : List (V × V) → Option (Option Nat)
  | [] => some none
  | (k', _) :: r => match eqKey kf k k' with
    | some true => some (some 0)
    | some false => (posK kf k r).map fun o => o.map (· + 1)
    | none => none

theorem findAsking_run {kt : TypeId} {kf : Option Nat} {k : V} {u : Value} (h : keyForm P kt = some kf) (hk : rel F noMu k u) : ∀ (es : List (V × V)) (l : List MapEntry) (i : Nat) {r : Option Nat}, mapRel F μ es l → posK kf k es = some r →
    (Instr.findAsking kt u l i).run P w = .ok (r.bind fun j => (l[j]?).map fun e => (i + j, e.val)) w
  | [], l, i, r, hm, hp => by
    simp only [mapRel] at hm; subst hm
    simp only [posK, Option.some.injEq] at hp; subst hp
    simp [Instr.findAsking]
  | (k', v') :: es, l, i, r, hm, hp => by
    obtain ⟨e, l', rfl, hk', hv', hm'⟩ := hm
    simp only [posK] at hp
    split at hp
    · rename_i he
      cases hp
      simp [Instr.findAsking, run_equal_key h he hk hk']
    · rename_i he
      simp only [Option.map_eq_some_iff] at hp
      obtain ⟨r', hr', rfl⟩ := hp
      simp only [Instr.findAsking, Sem.run_bind, run_equal_key h he hk hk', Result.andThen_ok, Bool.false_eq_true, if_false]
      rw [findAsking_run h hk es l' (i + 1) hm' hr']
      cases r' with
      | none => simp
      | some j => simp [Nat.add_assoc, Nat.add_comm 1 j]
    · cases hp

theorem findNow_int {kt : TypeId} {q : IntKind} {k : V} {u : Value} (hq : P.underlying kt = some (.int q)) (hk : rel F noMu k u) (hok : keyOk none k = true) : ∀ (es : List (V × V)) (l : List MapEntry) (i : Nat) {r : Option Nat}, mapRel F μ es l → posK none k es = some r →
    Instr.findNow (.int q) u l i = some (r.bind fun j => (l[j]?).map fun e => (i + j, e.val))
  | [], l, i, r, hm, hp => by
    simp only [mapRel] at hm; subst hm
    simp only [posK, Option.some.injEq] at hp; subst hp
    simp [Instr.findNow]
  | (k', v') :: es, l, i, r, hm, hp => by
    obtain ⟨e, l', rfl, hk', hv', hm'⟩ := hm
    simp only [posK] at hp
    have key : ∀ b, eqKey none k k' = some b → Instr.sameNow (.int q) u e.key = some b := fun b he => by
      unfold eqKey at he
      split at he
      · simp only [rel] at hk hk'
        rw [hk']; subst hk
        unfold eqCell at he
        simp only at he
        split at he
        · rename_i hkk; subst hkk; cases he; simp [Instr.sameNow]
        · cases he
      · rename_i hh; cases hh
      · cases he
    split at hp
    · rename_i he
      cases hp
      simp [Instr.findNow, key _ he]
    · rename_i he
      simp only [Option.map_eq_some_iff] at hp
      obtain ⟨r', hr', rfl⟩ := hp
      simp only [Instr.findNow, key _ he]
      rw [findNow_int hq hk hok es l' (i + 1) hm' hr']
      cases r' with
      | none => simp
      | some j => simp [Nat.add_assoc, Nat.add_comm 1 j]
    · cases hp

theorem run_findKey' {kt : TypeId} {kf : Option Nat} {k : V} {u : Value} {es : List (V × V)} {l : List MapEntry} {r : Option Nat} (h : keyForm P kt = some kf) (hok : keyOk kf k = true) (hk : rel F noMu k u) (hm : mapRel F μ es l) (hp : posK kf k es = some r) :
    (Instr.findKey kt u l).run P w = .ok (r.bind fun j => (l[j]?).map fun e => (j, e.val)) w := by
  obtain ⟨hf, hc⟩ := keyForm_spec h
  unfold Instr.findKey
  rcases hc with ⟨n, rfl, hg, hs⟩ | ⟨rfl, hg⟩
  · have hu : ∃ d, P.underlying kt = some d ∧ ∀ q, d ≠ .int q := by
      obtain ⟨_, d, _, _, hd⟩ := sizeT_info hs
      exact ⟨d, hd, fun q hq => by subst hq; simp [aggT, hd] at hg⟩
    obtain ⟨d, hd, hq⟩ := hu
    simp only [Sem.run_bind, run_underlying hd, Result.andThen_ok]
    cases es with
    | nil =>
      simp only [mapRel] at hm; subst hm
      simp only [posK, Option.some.injEq] at hp; subst hp
      simp [Instr.findNow]
    | cons e es =>
      obtain ⟨k', v'⟩ := e
      have hm0 := hm
      obtain ⟨e, l', rfl, hk', hv', hm'⟩ := hm
      have : Instr.findNow d u (e :: l') 0 = none := by
        cases k <;> simp only [keyOk, Bool.false_eq_true] at hok
        simp only [rel] at hk
        obtain ⟨us, rfl, _⟩ := hk
        simp only [Instr.findNow]
        have : Instr.sameNow d (.agg us.toArray) e.key = none := by
          cases d <;> simp [Instr.sameNow]
        rw [this]
      rw [this]
      simp only
      rw [findAsking_run h hk _ _ 0 hm0 hp]
      simp
  · obtain ⟨q, hq⟩ := flatEq_notAgg hf hg
    simp only [Sem.run_bind, run_underlying hq, Result.andThen_ok, findNow_int hq hk hok _ _ 0 hm hp, Sem.run_pure]
    simp

theorem findK_pos {kf : Option Nat} {k : V} : ∀ {es : List (V × V)} {r : Option V}, findK kf k es = some r → ∃ p, posK kf k es = some p ∧ ((p = none ∧ r = none) ∨ ∃ i kv, p = some i ∧ es[i]? = some kv ∧ r = some kv.2)
  | [], r, h => by simp only [findK, Option.some.injEq] at h; subst h; exact ⟨none, rfl, .inl ⟨rfl, rfl⟩⟩
  | (k', v') :: es, r, h => by
    simp only [findK] at h
    split at h
    · rename_i he; cases h; exact ⟨some 0, by simp [posK, he], .inr ⟨0, (k', v'), rfl, rfl, rfl⟩⟩
    · rename_i he
      obtain ⟨p, hp, hr⟩ := findK_pos h
      refine ⟨p.map (· + 1), by simp [posK, he, hp], ?_⟩
      rcases hr with ⟨rfl, rfl⟩ | ⟨i, kv, rfl, hi, rfl⟩
      · exact .inl ⟨rfl, rfl⟩
      · exact .inr ⟨i + 1, kv, rfl, by simpa using hi, rfl⟩
    · cases h

theorem setK_pos {kf : Option Nat} {k v : V} : ∀ {es es' : List (V × V)}, setK kf k v es = some es' → ∃ p, posK kf k es = some p ∧ ((p = none ∧ es' = es ++ [(k, v)]) ∨ ∃ i kv, p = some i ∧ es[i]? = some kv ∧ eqKey kf k kv.1 = some true ∧ es' = es.set i (k, v))
  | [], es', h => by simp only [setK, Option.some.injEq] at h; subst h; exact ⟨none, rfl, .inl ⟨rfl, rfl⟩⟩
  | (k', v') :: es, es', h => by
    simp only [setK] at h
    split at h
    · rename_i he; cases h; exact ⟨some 0, by simp [posK, he], .inr ⟨0, (k', v'), rfl, rfl, he, rfl⟩⟩
    · rename_i he
      split at h
      · rename_i r hr
        cases h
        obtain ⟨p, hp, hc⟩ := setK_pos hr
        refine ⟨p.map (· + 1), by simp [posK, he, hp], ?_⟩
        rcases hc with ⟨rfl, rfl⟩ | ⟨i, kv, rfl, hi, hk, rfl⟩
        · exact .inl ⟨rfl, rfl⟩
        · exact .inr ⟨i + 1, kv, rfl, by simpa using hi, hk, rfl⟩
      · cases h
    · cases h

theorem delK_pos {kf : Option Nat} {k : V} : ∀ {es es' : List (V × V)}, delK kf k es = some es' → ∃ p, posK kf k es = some p ∧ ((p = none ∧ es' = es) ∨ ∃ i, p = some i ∧ i < es.length ∧ es' = es.eraseIdx i)
  | [], es', h => by simp only [delK, Option.some.injEq] at h; subst h; exact ⟨none, rfl, .inl ⟨rfl, rfl⟩⟩
  | (k', v') :: es, es', h => by
    simp only [delK] at h
    split at h
    · rename_i he; cases h; exact ⟨some 0, by simp [posK, he], .inr ⟨0, rfl, by simp, rfl⟩⟩
    · rename_i he
      split at h
      · rename_i r hr
        cases h
        obtain ⟨p, hp, hc⟩ := delK_pos hr
        refine ⟨p.map (· + 1), by simp [posK, he, hp], ?_⟩
        rcases hc with ⟨rfl, rfl⟩ | ⟨i, rfl, hi, rfl⟩
        · exact .inl ⟨rfl, rfl⟩
        · exact .inr ⟨i + 1, rfl, by simp; omega, rfl⟩
      · cases h
    · cases h

theorem mapRel_get : ∀ {es : List (V × V)} {l : List MapEntry} {i : Nat} {kv : V × V}, mapRel F μ es l → es[i]? = some kv → ∃ e, l[i]? = some e ∧ rel F noMu kv.1 e.key ∧ rel F μ kv.2 e.val
  | [], _, _, _, _, h => by simp at h
  | (k, v) :: es, l, i, kv, hm, h => by
    obtain ⟨e, l', rfl, hk, hv, hm'⟩ := hm
    cases i with
    | zero => simp at h; subst h; exact ⟨e, rfl, hk, hv⟩
    | succ i => simp at h; simpa using mapRel_get hm' h

theorem mapRel_length : ∀ {es : List (V × V)} {l : List MapEntry}, mapRel F μ es l → es.length = l.length
  | [], _, h => by simp only [mapRel] at h; subst h; rfl
  | (_, _) :: _, _, h => by obtain ⟨_, _, rfl, _, _, hm⟩ := h; simp [mapRel_length hm]

theorem mapRel_append : ∀ {es : List (V × V)} {l : List MapEntry} {k v : V} {e : MapEntry}, mapRel F μ es l → rel F noMu k e.key → rel F μ v e.val → mapRel F μ (es ++ [(k, v)]) (l ++ [e])
  | [], _, k, v, e, h, h1, h2 => by simp only [mapRel] at h; subst h; exact ⟨e, [], rfl, h1, h2, rfl⟩
  | (_, _) :: _, _, k, v, e, h, h1, h2 => by obtain ⟨e', l', rfl, h3, h4, hm⟩ := h; exact ⟨e', _, rfl, h3, h4, mapRel_append hm h1 h2⟩

theorem mapRel_set : ∀ {es : List (V × V)} {l : List MapEntry} {i : Nat} {k v : V} {e : MapEntry}, mapRel F μ es l → rel F noMu k e.key → rel F μ v e.val → mapRel F μ (es.set i (k, v)) (l.set i e)
  | [], _, _, _, _, _, h, _, _ => by simp only [mapRel] at h; subst h; simp [mapRel]
  | (_, _) :: _, _, i, k, v, e, h, h1, h2 => by
    obtain ⟨e', l', rfl, h3, h4, hm⟩ := h
    cases i with
    | zero => exact ⟨e, l', rfl, h1, h2, hm⟩
    | succ i => exact ⟨e', _, rfl, h3, h4, mapRel_set hm h1 h2⟩

theorem mapRel_erase : ∀ {es : List (V × V)} {l : List MapEntry} {i : Nat}, mapRel F μ es l → mapRel F μ (es.eraseIdx i) (l.eraseIdx i)
  | [], _, _, h => by simp only [mapRel] at h; subst h; simp [mapRel]
  | (_, _) :: _, _, i, h => by
    obtain ⟨e', l', rfl, h3, h4, hm⟩ := h
    cases i with
    | zero => exact hm
    | succ i => exact ⟨e', _, rfl, h3, h4, mapRel_erase hm⟩

end
end Go.Ev
