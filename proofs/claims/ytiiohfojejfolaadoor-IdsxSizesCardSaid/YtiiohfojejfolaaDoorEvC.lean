/-
  The evaluator, part C. Each operation does in memory what it does on plain values: appending, copying, slices' literals. Appending, on plain values and in memory. Rows that may be written: appended to, laid anew, let go. Maps, on plain values and in memory. Maps written, structs and slices built, bytes copied: on plain values and in memory. Slices' literals, new rows, texts and bytes: on plain values and in memory. Texts and bytes, copies, the least and the greatest: on plain values and in memory. Each operation of the program that is no call does in memory what it does on plain values. Rows that may be written: literals, zeros, rows that are written no more.
-/
import Derived.Test.YtiiohfojejfolaaDoorEvB
import Derived.IntWalk
set_option linter.unusedVariables false
set_option linter.unusedSimpArgs false
namespace Go.Ev
open Go
section
variable {P : Program} {w : World} {F : Frz} {μ : Mu} {σ : Store}

theorem bind_run {α β : Type} {x : Act α} {f : α → Act β} {l : List Key} {r : β × List Key} (h : (x.bind f).run σ l = some r) : ∃ a l', x.run σ l = some (a, l') ∧ (f a).run σ l' = some r := by
  induction x generalizing l with
  | ret a => exact ⟨a, l, rfl, h⟩
  | fail => simp [Act.bind, Act.run] at h
  | get k g ih =>
    simp only [Act.bind, Act.run] at h
    split at h
    · rename_i o ho
      obtain ⟨a, l', h1, h2⟩ := ih o h
      exact ⟨a, l', by simp [Act.run, ho, h1], h2⟩
    · cases h
  | new k g ih =>
    simp only [Act.bind, Act.run] at h
    split at h
    · cases h
    · rename_i hk
      obtain ⟨a, l', h1, h2⟩ := ih h
      exact ⟨a, l', by simp [Act.run, hk, h1], h2⟩

theorem cells_self : ∀ (l : List V), l.all (fun c => c.frozen && c.isCell) = true → l.flatMap V.cellsOf = l ∧ ∀ y ∈ l, y.cellsOf.length = 1 := fun l hl => by
  induction l with
  | nil => simp
  | cons x r ih =>
    simp only [List.all_cons, Bool.and_eq_true] at hl
    have hx1 : x.cellsOf = [x] := by cases x <;> first | rfl | (simp [V.isCell] at hl)
    obtain ⟨i1, i2⟩ := ih (by simpa using hl.2)
    refine ⟨by rw [List.flatMap_cons, hx1, i1]; rfl, ?_⟩
    intro y hy
    rcases List.mem_cons.1 hy with rfl | hy
    · rw [hx1]; rfl
    · exact i2 y hy

theorem cells_self' : ∀ {l : List V}, l.all V.isCell = true → l.flatMap V.cellsOf = l
  | [], _ => rfl
  | x :: r, hl => by
    simp only [List.all_cons, Bool.and_eq_true] at hl
    have hx1 : x.cellsOf = [x] := by cases x <;> first | rfl | (simp [V.isCell] at hl)
    rw [List.flatMap_cons, hx1, cells_self' hl.2]; rfl

theorem chunks_spec {e : Nat} : ∀ (n : Nat) (cs : List V), cs.length = n * e → (chunks e n cs).length = n ∧ (∀ y ∈ chunks e n cs, y.cellsOf.length = e) ∧ (chunks e n cs).flatMap V.cellsOf = cs
  | 0, cs, h => by
    have : cs = [] := by simpa using h
    subst this; simp [chunks]
  | n + 1, cs, h => by
    have e1 : (n + 1) * e = n * e + e := by rw [Nat.add_mul, Nat.one_mul]
    have hd : (cs.drop e).length = n * e := by rw [List.length_drop]; omega
    obtain ⟨g1, g2, g3⟩ := chunks_spec (e := e) n (cs.drop e) hd
    refine ⟨by rw [chunks, List.length_cons, g1], ?_, by rw [chunks, List.flatMap_cons, g3, V.cellsOf, List.take_append_drop]⟩
    rw [chunks]
    intro y hy
    rcases List.mem_cons.1 hy with rfl | hy
    · simp only [V.cellsOf, List.length_take]; omega
    · exact g2 y hy

theorem elemsOf_spec {e n : Nat} {cs xs : List V} (h : elemsOf e n cs = some xs) :
    cs.length = n * e ∧ e ≠ 0 ∧ xs.length = n ∧ (∀ y ∈ xs, y.cellsOf.length = e) ∧ xs.flatMap V.cellsOf = cs.map V.thin ∧ (cs.map V.thin).all (fun c => c.frozen && c.isCell) = true := by
  unfold elemsOf at h
  simp only at h
  split at h
  · rename_i hc
    obtain ⟨h1, h2, h3⟩ := hc
    cases h
    have hl : cs.length = n * e := by simpa using h1
    refine ⟨hl, h2, ?_⟩
    split
    · rename_i he
      subst he
      obtain ⟨g1, g2⟩ := cells_self _ h3
      exact ⟨by simpa using hl, g2, g1, h3⟩
    · obtain ⟨g1, g2, g3⟩ := chunks_spec n _ h1
      exact ⟨g1, g2, g3, h3⟩
  · cases h

/-- Cells that have no names in them. -/
theorem rels_thin_frozen {cs : List V} {us : List Value} (h : rels F μ cs us) (hf : (cs.map V.thin).all (fun c => c.frozen && c.isCell) = true) : rels F noMu (cs.map V.thin) us := by
  rw [rels_iff] at h ⊢
  refine ⟨by simpa using h.1, fun i v u hv hu => ?_⟩
  simp only [List.getElem?_map, Option.map_eq_some_iff] at hv
  obtain ⟨v', hv', rfl⟩ := hv
  rw [List.all_eq_true] at hf
  have h3 := hf v'.thin (List.mem_map_of_mem (List.mem_of_getElem? hv'))
  simp only [Bool.and_eq_true] at h3
  exact rel_frozen _ _ h3.1 (rel_thin (h.2 i v' u hv' hu))

theorem isCells_of_frozen {l : List V} (h : l.all (fun c => c.frozen && c.isCell) = true) : l.all V.isCell = true := by
  rw [List.all_eq_true] at h ⊢
  intro x hx
  have := h x hx
  simp only [Bool.and_eq_true] at this
  exact this.2

/-- The cells of a part of a row, in memory. -/
theorem row_part {k : Key} {o : Obj} {cs : List V} {e off len : Nat} {u : Value} (hI : Inv F μ σ w) (ho : σ.get k = some o) (hc : o.rowCells = some cs) (hx : rel F μ (.rowv k e off len) u) (hl : ((cs.drop off).take (len * e)).length = len * e) (he : e ≠ 0) :
    ∃ b oo cap us, u = .slice (some ⟨b, oo, none⟩) len cap ∧ len ≤ cap ∧ rels F μ ((cs.drop off).take (len * e)) us ∧ us.length = len * e ∧ ∀ (w' : World), w'.heap = w.heap → ∀ n, n ≤ len → (Builtin.firstCells e n u).run P w' = .ok (us.take (n * e)).toArray w' := by
  simp only [rel] at hx
  obtain ⟨_, h, q, hm, hq, hu⟩ := hx
  obtain ⟨b, s, us, rfl, hs, hcs, hul, hcell, _⟩ := hI.rowRead ho hc hm hq
  obtain ⟨oo, cap, rfl, hcap⟩ := hu b s rfl
  have hr := rels_take (len * e) (rels_drop off hcs)
  have hrl := rels_length hr
  rw [hl] at hrl
  have hlc : len ≤ cap := by
    rcases hcap with ⟨_, h2⟩ | ⟨h1, h2, _⟩
    · rcases Nat.eq_zero_or_pos len with h0 | h0
      · omega
      · have : off + len * e ≤ cs.length := by
          have h3 : ((cs.drop off).take (len * e)).length = Nat.min (len * e) (cs.length - off) := by simp
          rw [hl] at h3
          have h4 : 0 < len * e := Nat.mul_pos h0 (Nat.pos_of_ne_zero he)
          have h5 : Nat.min (len * e) (cs.length - off) ≤ cs.length - off := Nat.min_le_right _ _
          omega
        have : len * e ≤ cap * e := by omega
        exact Nat.le_of_mul_le_mul_right this (Nat.pos_of_ne_zero he)
    · omega
  refine ⟨b, oo, cap, (us.drop off).take (len * e), rfl, hlc, hr, hrl.symm, fun w' hw' n hn => ?_⟩
  simp only [Builtin.firstCells]
  rcases hcap with ⟨rfl, _⟩ | ⟨_, h0, _⟩
  · have hle : n * e ≤ len * e := Nat.mul_le_mul_right e hn
    have := run_loads (P := P) (w := w') (b := b) (o := oo) (us := ((us.drop oo).take (len * e)).take (n * e)) (fun j v hj => by
      rw [List.getElem?_take] at hj
      split at hj
      · have := hcell _ _ (mem_of_take_drop hj)
        rw [← this]; simp only [World.cell?, hw']
      · cases hj)
    rw [List.length_take, ← hrl, Nat.min_eq_left hle] at this
    exact this
  · have hn0 : n = 0 := by omega
    subst hn0
    have := run_loadCells_list (w := w') (P := P) ⟨b, oo, none⟩ [] (by simp)
    simpa using this

/-- What is read of a source: its elements' cells, and how long it is. -/
theorem source_run {esz : Nat} {x : V} {u : Value} {xs : List V} {l l' : List Key} (hI : Inv F μ σ w) (hx : rel F μ x u) (h0 : esz ≠ 0)
    (h : (source esz x).run σ l = some (xs, l')) : (Builtin.lenOf u).run P w = .ok xs.length w ∧ (∀ y ∈ xs, y.cellsOf.length = esz) ∧
      ∃ us : List Value, rels F noMu (xs.flatMap V.cellsOf) us ∧ (∀ (w' : World), w'.heap = w.heap → ∀ n, n ≤ xs.length → (Builtin.firstCells esz n u).run P w' = .ok (us.take (n * esz)).toArray w') ∧ ∀ v ∈ us, v.oneCell' = true := by
  unfold source at h
  split at h
  · rename_i e xs' own
    split at h
    · rename_i he
      subst he
      simp only [Act.run, Option.some.injEq, Prod.mk.injEq] at h
      obtain ⟨rfl, _⟩ := h
      simp only [rel] at hx
      obtain ⟨base, cap, rfl, hb, ho⟩ := hx
      refine ⟨by simp [Builtin.lenOf], ?_⟩
      cases base with
      | none =>
        obtain ⟨rfl, rfl⟩ := hb
        exact ⟨by simp, [], by simp [rels], fun w' _ n hn => by simp [Builtin.firstCells], by simp⟩
      | some a =>
        obtain ⟨hsp, hf⟩ := hb
        rw [frzE_iff] at hf
        obtain ⟨us, hu, hc, h1c⟩ := frz_read hI hf.2
        have hlen := rels_length hu
        rw [flatMap_cells_length hf.1] at hlen
        refine ⟨hf.1, us, hu, fun w' hw' n hn => ?_, h1c⟩
        rcases hsp with hnil | hsp
        · subst hnil
          have hn0 : n = 0 := by simpa using hn
          subst hn0
          have := run_loadCells_list (w := w') (P := P) a [] (by simp)
          simpa [Builtin.firstCells] using this
        have ha : a = ⟨a.block, a.off, none⟩ := by cases a; simp_all
        have hle : n * e ≤ us.length := by rw [← hlen]; exact Nat.mul_le_mul_right e hn
        have := run_loads (P := P) (w := w') (b := a.block) (o := a.off) (us := us.take (n * e)) (fun j v hj => by
          rw [List.getElem?_take] at hj
          split at hj
          · rw [← hc j v hj]; simp only [World.cell?, hw']
          · cases hj)
        rw [List.length_take, Nat.min_eq_left hle] at this
        simp only [Builtin.firstCells]
        rw [ha]; exact this
    · cases h
  · simp only [Act.run, Option.some.injEq, Prod.mk.injEq] at h
    obtain ⟨rfl, _⟩ := h
    simp only [rel] at hx
    subst hx
    exact ⟨by simp [Builtin.lenOf], by simp, [], by simp [rels], fun w' _ n hn => by simp [Builtin.firstCells], by simp⟩
  · rename_i s
    split at h
    · rename_i he
      subst he
      simp only [Act.run, Option.some.injEq, Prod.mk.injEq] at h
      obtain ⟨rfl, _⟩ := h
      simp only [rel] at hx
      subst hx
      have hsz : (bytesV s).length = s.size := by simp [bytesV, ByteArray.toList_eq]
      have hcells : ∀ (l : List UInt8), (l.map fun b => (V.int .u8 b.toNat)).flatMap V.cellsOf = l.map fun b => (V.int .u8 b.toNat) := fun l => by
        induction l with
        | nil => rfl
        | cons c r ih => simp only [List.map_cons, List.flatMap_cons, ih]; rfl
      refine ⟨by simp [Builtin.lenOf, hsz], ?_, s.toList.map fun b => .int .u8 b.toNat, ?_, fun w' _ n hn => ?_, fun v hv => by
        simp only [List.mem_map] at hv; obtain ⟨b, _, rfl⟩ := hv; rfl⟩
      · intro y hy
        simp only [bytesV, List.mem_map] at hy
        obtain ⟨b, _, rfl⟩ := hy
        rfl
      · simp only [bytesV, hcells]
        rw [rels_iff]
        refine ⟨by simp, fun i v u hv hu => ?_⟩
        simp only [List.getElem?_map, Option.map_eq_some_iff] at hv hu
        obtain ⟨b, hb, rfl⟩ := hv
        obtain ⟨b', hb', rfl⟩ := hu
        rw [hb] at hb'; cases hb'
        simp [rel]
      · simp only [Builtin.firstCells, Sem.run_pure, Result.ok.injEq, and_true]
        apply Array.ext'
        rw [hsz] at hn
        simp [ByteArray.toList_eq, List.map_take, List.extract_eq_take_drop]
    · cases h
  · rename_i k e off len c
    split at h
    · rename_i he
      obtain ⟨rfl, rfl⟩ := he
      obtain ⟨o, ho, h⟩ := get_run h
      cases o <;> simp only [Act.run, reduceCtorEq] at h
      rename_i cs
      split at h
      · rename_i hc
        simp only [Act.run, Option.some.injEq, Prod.mk.injEq] at h
        obtain ⟨rfl, _⟩ := h
        simp only [rel] at hx
        obtain ⟨b, hb, rfl⟩ := hx
        obtain ⟨us, ty, hw, hcs, _⟩ := hI.cells ho hb
        have hr := rels_take len (rels_drop off hcs)
        have hthin : rels F noMu (((cs.drop off).take len).map V.thin) ((us.drop off).take len) := by
          rw [rels_iff] at hr ⊢
          refine ⟨by simpa using hr.1, fun i v u hv hu => ?_⟩
          simp only [List.getElem?_map, Option.map_eq_some_iff] at hv
          obtain ⟨v', hv', rfl⟩ := hv
          have h1 := rel_thin (hr.2 i v' u hv' hu)
          have h2 := hc.2
          rw [List.all_eq_true] at h2
          have h3 := h2 v'.thin (List.mem_map_of_mem (List.mem_of_getElem? hv'))
          simp only [Bool.and_eq_true] at h3
          exact rel_frozen _ _ h3.1 h1
        have hcells : ∀ (l : List V), l.all (fun c => c.frozen && c.isCell) = true → l.flatMap V.cellsOf = l ∧ ∀ y ∈ l, y.cellsOf.length = 1 := fun l hl => by
          induction l with
          | nil => simp
          | cons x r ih =>
            simp only [List.all_cons, Bool.and_eq_true] at hl
            have hx1 : x.cellsOf = [x] := by cases x <;> first | rfl | (simp [V.isCell] at hl)
            obtain ⟨i1, i2⟩ := ih (by simpa using hl.2)
            refine ⟨by rw [List.flatMap_cons, hx1, i1]; rfl, ?_⟩
            intro y hy
            rcases List.mem_cons.1 hy with rfl | hy
            · rw [hx1]; rfl
            · exact i2 y hy
        obtain ⟨g1, g2⟩ := hcells _ hc.2
        refine ⟨by simp only [Builtin.lenOf, hc.1, Sem.run_pure], g2, (us.drop off).take len, by rw [g1]; exact hthin, fun w' hw' n hn => ?_, oneCell_of_rels hthin (by
          have := hc.2
          rw [List.all_eq_true] at this ⊢
          intro x hx
          have := this x hx
          simp only [Bool.and_eq_true] at this
          exact this.2)⟩
        rw [hc.1] at hn
        have hl2 : ((us.drop off).take len).length = len := by rw [← rels_length hthin, hc.1]
        have := run_loads (P := P) (w := w') (b := b) (o := off) (us := ((us.drop off).take len).take n) (fun j v hj => by
          rw [cell_of_heap (hw' ▸ hw)]
          rw [List.getElem?_take] at hj
          split at hj
          · exact mem_of_take_drop hj
          · cases hj)
        rw [List.length_take, hl2, Nat.min_eq_left hn] at this
        simp only [Builtin.firstCells, Nat.mul_one]
        exact this
      · exact (fail_run h).elim
    · cases h
  · rename_i k e off len
    split at h
    · rename_i he
      subst he
      obtain ⟨o, ho, h⟩ := get_run h
      have hcs : ∃ cs, o.rowCells = some cs ∧ elemsOf e len ((cs.drop off).take (len * e)) = some xs := by
        have key : ∀ {y : Option (List V)} {l1 : List Key}, (ofOpt y : Act (List V)).run σ l1 = some (xs, l') → y = some xs := fun {y l1} hy => by
          cases y with
          | none => simp [ofOpt, Act.run] at hy
          | some z => simp only [ofOpt, Act.run, Option.some.injEq, Prod.mk.injEq] at hy; rw [hy.1]
        cases o <;> simp only at h <;> first | exact (fail_run h).elim | exact ⟨_, rfl, key h⟩
      obtain ⟨cs, hc, hel⟩ := hcs
      obtain ⟨g1, g2, g3, g4, g5, g6⟩ := elemsOf_spec hel
      obtain ⟨b, oo, cap, us, rfl, _, hr, hul, hfirst⟩ := row_part (P := P) hI ho hc hx g1 g2
      have hno := rels_thin_frozen hr g6
      refine ⟨by simp only [Builtin.lenOf, g3, Sem.run_pure], g4, us, by rw [g5]; exact hno, fun w' hw' n hn => hfirst w' hw' n (by omega), oneCell_of_rels hno (isCells_of_frozen g6)⟩
    · cases h
  · cases h

/-! ### appending -/
theorem growBy_le : ∀ (r need c : Nat), c ≤ need → 256 ≤ need → Builtin.growBy need r c ≤ 2 * need + 0
  | 0, need, c, h, _ => by simp [Builtin.growBy]; omega
  | r + 1, need, c, h, h2 => by
    unfold Builtin.growBy
    split
    · omega
    · rename_i hc
      by_cases h3 : c + (c + 768) / 4 ≤ need
      · exact growBy_le r need _ h3 h2
      · cases r with
        | zero => simp only [Builtin.growBy]; omega
        | succ r =>
          unfold Builtin.growBy
          rw [if_pos (by omega)]
          omega

theorem nextslicecap_le {need cap : Nat} (h : cap ≤ need) : Builtin.nextslicecap need cap ≤ 2 * need := by
  unfold Builtin.nextslicecap
  split
  · omega
  · split
    · omega
    · exact growBy_le 4 need cap h (by omega)

theorem run_choose_cap {need old : Nat} {e : TypeId} (hn : need < 2 ^ 63) : ∃ c, need ≤ c ∧ (choose (.appendCap need old e)).run P w = .ok c { w with drawn := w.drawn + 1 } := by
  refine ⟨(Question.appendCap need old e).cut (w.tape w.drawn (.appendCap need old e)), ?_, ?_⟩
  · simp only [Question.cut]; omega
  · simp [choose, Sem.run, Question.forced]

theorem zeroCells_length {z : Array Value} {n : Nat} : (Builtin.zeroCells z n).toList.length = n * z.size := by simp [Builtin.zeroCells]

theorem zeroSize_spec {e : TypeId} {n : Nat} (h : zeroSize P e = some n) : ∃ i z, P.info? e = some i ∧ i.zero = some z ∧ z.cells.size = n := by
  unfold zeroSize at h
  cases hi : P.info? e with
  | none => simp [hi] at h
  | some i =>
    cases hz : i.zero with
    | none => simp [hi, hz] at h
    | some z => exact ⟨i, z, rfl, hz, by simpa [hi, hz] using h⟩

theorem bytesT_info {e : TypeId} {n : Nat} (h : bytesT P e = some n) : ∃ i, P.info? e = some i ∧ i.bytes = n := by
  unfold bytesT at h
  cases hi : P.info? e with
  | none => simp [hi] at h
  | some i => exact ⟨i, rfl, by simpa [hi] using h⟩

end
end Go.Ev

namespace Go.Ev
open Go
section
variable {P : Program} {w : World} {F : Frz} {μ : Mu} {σ : Store}

def notInt : TypeDesc → Prop
  | .int _ => False
  | _ => True

theorem run_append_fits {t t' ty e : TypeId} {d : TypeDesc} {m n len cap : Nat} {base : Option Addr} {u : Value} {cells : Array Value} (hu : P.underlying t = some (.slice e)) (hu' : P.underlying t' = some d) (hd : notInt d)
    (hs : sizeT P e = some m) (hx : (Builtin.lenOf u).run P w = .ok n w) (hc : (Builtin.firstCells m n u).run P w = .ok cells w) (hle : len + n ≤ cap) :
    (Builtin.append_ #[t, t'] ty #[.slice base len cap, u]).run P w =
      (((match base with | some a => storeCells (a.add (len * m)) cells.toList | none => pure ()) : Sem Unit).run P w).andThen fun _ w' => .ok (.slice base (len + n) cap) w' := by
  have hz : (match d with | .int _ => true | _ => false) = false := by cases d <;> first | rfl | exact hd.elim
  unfold Builtin.append_
  simp only [List.getElem?_toArray, List.getElem?_cons_zero, List.getElem?_cons_succ, Sem.run_bind, run_underlying hu, run_underlying hu', Result.andThen_ok, run_sizeOf' hs, Sem.run_pure]
  cases d <;> first | exact hd.elim | skip
  all_goals
    simp only [hx, Result.andThen_ok, Bool.false_eq_true, if_false, hle, if_true, Sem.run_bind, Bool.not_false, hc, Sem.run_pure]
    cases base <;> simp

theorem run_append_grows {t t' ty e : TypeId} {d : TypeDesc} {m n by_ len cap : Nat} {base : Option Addr} {u : Value} {old cells : Array Value} (hu : P.underlying t = some (.slice e)) (hu' : P.underlying t' = some d) (hd : notInt d)
    (hs : sizeT P e = some m) (hb : bytesT P e = some by_) (hz : zeroSize P e = some m) (hx : (Builtin.lenOf u).run P w = .ok n w)
    (ho : ∀ w' : World, w'.heap = w.heap → (Builtin.firstCells m len (.slice base len cap)).run P w' = .ok old w')
    (hc : ∀ w' : World, w'.heap = w.heap → (Builtin.firstCells m n u).run P w' = .ok cells w') (hgt : ¬ len + n ≤ cap) (hcap : len ≤ cap)
    (hsz : (len + n) * by_ ≤ 1099511627776) (hsz' : len + n ≤ 1099511627776) :
    ∃ (c : Nat) (w' : World) (rest : List Value), len + n ≤ c ∧ (Builtin.append_ #[t, t'] ty #[.slice base len cap, u]).run P w = .ok (.slice (some ⟨w.heap.size, 0, none⟩) (len + n) c) w' ∧
      w'.heap = w.heap.push (.cells (old.toList ++ cells.toList ++ rest).toArray e (0, 0)) ∧ w'.os = w.os ∧ w'.output = w.output ∧ rest.length = (c - (len + n)) * m := by
  obtain ⟨i, z, hi, hiz, hzs⟩ := zeroSize_spec hz
  obtain ⟨i', hi', hby⟩ := bytesT_info hb
  rw [hi] at hi'; cases hi'
  have hn1 : Builtin.nextslicecap (len + n) cap ≤ 2 * (len + n) := nextslicecap_le (by omega)
  have hn2 : ¬ Builtin.nextslicecap (len + n) cap * i.bytes > 2 ^ 48 := by
    rw [hby]
    have := Nat.mul_le_mul_right by_ hn1
    have e1 : 2 * (len + n) * by_ = 2 * ((len + n) * by_) := Nat.mul_assoc ..
    omega
  have hn3 : ¬ (((len + n : Nat) : Int) > IntKind.i64.max ∧ i.bytes = 0) := by
    have : IntKind.i64.max = 9223372036854775807 := by decide
    omega
  obtain ⟨c, hc1, hc2⟩ := run_choose_cap (P := P) (w := w) (need := len + n) (old := cap) (e := e) (by omega)
  have ti : ∀ w' : World, (typeInfo e).run P w' = .ok i w' := fun w' => by simp [typeInfo, hi]
  have zv : ∀ w' : World, (zeroValue e).run P w' = .ok z w' := fun w' => by simp [zeroValue, typeInfo, hi, hiz]
  refine ⟨c, { w with drawn := w.drawn + 1, heap := w.heap.push (.cells (old ++ cells ++ Builtin.zeroCells z.cells (c - (len + n))) e) }, (Builtin.zeroCells z.cells (c - (len + n))).toList, hc1, ?_, by
    show w.heap.push _ = w.heap.push _
    congr 2; apply Array.ext'; simp, rfl, rfl, by rw [zeroCells_length, hzs]⟩
  unfold Builtin.append_
  simp only [List.getElem?_toArray, List.getElem?_cons_zero, List.getElem?_cons_succ, Sem.run_bind, run_underlying hu, run_underlying hu', Result.andThen_ok, run_sizeOf' hs, Sem.run_pure]
  have e1 := ho { w with drawn := w.drawn + 1 } rfl
  have e2 := hc { w with drawn := w.drawn + 1 } rfl
  cases d <;> first | exact hd.elim | skip
  all_goals
    simp only [hx, Result.andThen_ok, Bool.false_eq_true, if_false, hgt, Sem.run_bind, Bool.not_false, if_true, ti, false_or, hn3, hn2, hc2, run_askRoom, e1, e2, zv, Sem.run_pure, newRow, run_newObj]

/-- Spare places are left, others are taken in a new block. -/
theorem Post.moveTok (hI : Inv F μ σ w) {k : Key} {h0 h : Hd} {n : Nat} (hk : μ k = some h0) (hle : h0.le h) (hr : objRel F (μ.set k h) w (.tok n) h) (hd : ∀ k' h', k' ≠ k → μ k' = some h' → h.disj h') :
    Inv F (μ.set k h) (σ.put k (.tok n)) w ∧ μ.le (μ.set k h) := by
  have hm : μ.le (μ.set k h) := Mu.le_set fun h' hh => by rw [hk] at hh; cases hh; exact hle
  refine ⟨⟨hI.frozen, fun k' o' hk' => ?_, fun k' h' hk' => ?_, fun k1 k2 h1 h2 hne e1 e2 => ?_⟩, hm⟩
  · rw [Store.get_put] at hk'
    split at hk'
    · rename_i he; subst he; cases hk'; exact ⟨h, Mu.set_same .., hr⟩
    · rename_i he
      obtain ⟨h', h1, h2⟩ := hI.dom1 k' o' hk'
      exact ⟨h', by rw [Mu.set_other (Ne.symm he)]; exact h1, objRel_mono F.le_refl hm h2 (fun _ _ => rfl) (fun _ _ _ _ hq => hq)⟩
  · rw [Store.get_put]
    split
    · exact ⟨_, rfl⟩
    · rename_i he
      rw [Mu.set_other (Ne.symm he)] at hk'
      exact hI.dom2 k' h' hk'
  · by_cases c1 : k1 = k
    · subst c1
      rw [Mu.set_same] at e1; cases e1
      rw [Mu.set_other (Ne.symm hne)] at e2
      exact hd k2 h2 (Ne.symm hne) e2
    · rw [Mu.set_other c1] at e1
      by_cases c2 : k2 = k
      · subst c2
        rw [Mu.set_same] at e2; cases e2
        exact Hd.disj_symm (hd k1 h1 c1 e1)
      · rw [Mu.set_other c2] at e2
        exact hI.apart k1 k2 h1 h2 hne e1 e2

theorem Born.newRow {b p r e n : Nat} (h : w.heap.size ≤ b) : Born μ w (.spare b p r e n) := .inr (.inl h)

/-- The answer of an append that takes a new block. -/
theorem grown {w' : World} {e : TypeId} {m c : Nat} {xs ys : List V} {old new rest : List Value} (hI : Inv F μ σ w) (hm : m ≠ 0)
    (hx : ∀ x ∈ xs, x.cellsOf.length = m) (hy : ∀ y ∈ ys, y.cellsOf.length = m) (ho : rels F noMu (xs.flatMap V.cellsOf) old) (hn : rels F noMu (ys.flatMap V.cellsOf) new)
    (ho1 : ∀ u ∈ old, u.oneCell' = true) (hn1 : ∀ u ∈ new, u.oneCell' = true)
    (hh : w'.heap = w.heap.push (.cells (old ++ new ++ rest).toArray e (0, 0))) (hos : w'.os = w.os) (hou : w'.output = w.output) (hc : xs.length + ys.length ≤ c) (hr : rest.length = (c - (xs.length + ys.length)) * m) :
    ∃ F', Post F μ w F' μ σ w' ∧ frzE F' w.heap.size 0 m (xs ++ ys) ∧
      ∀ (μ' : Mu) (n : Nat), objRel F' μ' w' (.tok n) (.spare w.heap.size ((xs.length + ys.length) * m) (c - (xs.length + ys.length)) m n) := by
  have hp := Post.newRow (F := F) (μ := μ) (σ := σ) (w := w) (w' := w') hI (old ++ new) rest e (0, 0) (fun u hu => by
    rcases List.mem_append.1 hu with h | h
    · exact ho1 u h
    · exact hn1 u h) hh hos hou
  have hl1 := rels_length ho
  have hl2 := rels_length hn
  rw [flatMap_cells_length hx] at hl1
  rw [flatMap_cells_length hy] at hl2
  refine ⟨_, hp, ?_, fun μ' n => ⟨rfl, .inr ⟨Nat.pos_of_ne_zero hm, _, e, push_get hh, ?_, fun off h1 h2 => ?_⟩⟩⟩
  · rw [frzE_iff]
    refine ⟨fun x hx' => ?_, frz_put hp.2.1.le ?_⟩
    · rcases List.mem_append.1 hx' with h | h
      · exact hx x h
      · exact hy x h
    · rw [List.flatMap_append]; exact rels_append ho hn
  · simp only [List.length_append, ← hl1, ← hl2, hr]
    have := Nat.add_mul xs.length ys.length m
    omega
  · cases hq : (F.put w.heap.size 0 (old ++ new)) ⟨w.heap.size, off, none⟩ with
    | none => rfl
    | some u =>
      rcases Frz.put_cases hq with h | ⟨_, _, h3, _⟩
      · have := hI.frz_lt h; simp at this
      · simp only [List.length_append, ← hl1, ← hl2, ← Nat.add_mul] at h3
        simp at h3
        omega

/-- What an append of these cells does where there is room. -/
def AppFits (P : Program) (w : World) (t t' ty : TypeId) (m n : Nat) (u : Value) (cells : Array Value) : Prop :=
  ∀ (base : Option Addr) (len cap : Nat), len + n ≤ cap → (Builtin.append_ #[t, t'] ty #[.slice base len cap, u]).run P w =
      (((match base with | some a => storeCells (a.add (len * m)) cells.toList | none => pure ()) : Sem Unit).run P w).andThen fun _ w' => .ok (.slice base (len + n) cap) w'
/-- And where there is none. -/
def AppGrows (P : Program) (w : World) (t t' ty e : TypeId) (m by_ n : Nat) (u : Value) (cells : Array Value) : Prop :=
  ∀ (base : Option Addr) (len cap : Nat) (old : Array Value), (∀ w' : World, w'.heap = w.heap → (Builtin.firstCells m len (.slice base len cap)).run P w' = .ok old w') → ¬ len + n ≤ cap → len ≤ cap →
    (len + n) * by_ ≤ 1099511627776 → len + n ≤ 1099511627776 →
    ∃ (c : Nat) (w' : World) (rest : List Value), len + n ≤ c ∧ (Builtin.append_ #[t, t'] ty #[.slice base len cap, u]).run P w = .ok (.slice (some ⟨w.heap.size, 0, none⟩) (len + n) c) w' ∧
      w'.heap = w.heap.push (.cells (old.toList ++ cells.toList ++ rest).toArray e (0, 0)) ∧ w'.os = w.os ∧ w'.output = w.output ∧ rest.length = (c - (len + n)) * m

theorem good_append_gen {t t' ty e : TypeId} {m by_ dst : Nat} {s : V} {us u : Value} {ys : List V} {uys : List Value} {a : Ans} {l rd : List Key} (hI : Inv F μ σ w) (h0 : m ≠ 0)
    (hycell : ∀ y ∈ ys, y.cellsOf.length = m) (huys : rels F noMu (ys.flatMap V.cellsOf) uys) (huc : ∀ v ∈ uys, v.oneCell' = true)
    (hfits : AppFits P w t t' ty m ys.length u uys.toArray) (hgrows : AppGrows P w t t' ty e m by_ ys.length u uys.toArray)
    (hxs : rel F μ s us) (hr : (appendTo m by_ dst s ys).run σ l = some (a, rd)) :
    Good P (do pure (.value (← Builtin.append_ #[t, t'] ty #[us, u]))) F μ σ w a := by
  have hlu := rels_length huys
  rw [flatMap_cells_length hycell] at hlu
  have run1 : ∀ {v : Value} {w' : World}, (Builtin.append_ #[t, t'] ty #[us, u]).run P w = .ok v w' → (do pure (Next.value (← Builtin.append_ #[t, t'] ty #[us, u])) : Sem Next).run P w = .ok (.value v) w' := fun h => by
    simp only [Sem.run_bind, h, Result.andThen_ok, Sem.run_pure]
  cases s <;> simp only [appendTo] at hr <;> try (exact (fail_run hr).elim)
  case slc em xs own =>
    split at hr
    · rename_i hc3
      obtain ⟨rfl, hb1, hb2⟩ := hc3
      have hss : (source em (.slc em xs own)).run σ [] = some (xs, []) := by simp [source, Act.run]
      obtain ⟨_, hxcell, uxs, huxs, hfirstx, huxc⟩ := source_run (P := P) hI hxs h0 hss
      have hlx := rels_length huxs
      rw [flatMap_cells_length hxcell] at hlx
      have hxs0 := hxs
      simp only [rel] at hxs
      obtain ⟨base, cap, rfl, hbase, hown⟩ := hxs
      have hcap : xs.length ≤ cap := by
        cases own with
        | none => exact hown
        | nn => exact hown.1
        | tight => exact Nat.le_of_eq (Eq.symm hown)
        | tok k st => exact hown.1
      have hfx : ∀ w' : World, w'.heap = w.heap → (Builtin.firstCells em xs.length (.slice base xs.length cap)).run P w' = .ok uxs.toArray w' := fun w' hw' => by
        rw [hfirstx w' hw' xs.length (Nat.le_refl _), hlx, List.take_length]
      split at hr
      · -- nothing is appended
        rename_i hemp
        have := just_run hr; subst this
        have hys : ys = [] := by simpa using hemp
        subst hys
        have hu0 : uys = [] := by simpa using hlu.symm
        subst hu0
        refine Good.same hI (v := .slice base xs.length cap) (run1 ?_) hxs0
        rw [hfits _ _ _ (by simpa using hcap)]
        cases base <;> simp [storeCells]
      · rename_i hemp
        have hpos : 0 < ys.length := by
          cases ys with
          | nil => simp at hemp
          | cons _ _ => simp
        cases own with
        | none => exact (fail_run hr).elim
        | nn => exact (fail_run hr).elim
        | tight =>
          obtain ⟨hk, hr⟩ := new_run hr
          have := ret_run hr; simp only at this; subst this
          have hcl : cap = xs.length := hown
          obtain ⟨c, w', rest, hc1, hrun, hheap, hos, hou, hrest⟩ := hgrows _ _ _ _ hfx (by omega) hcap hb1 hb2
          obtain ⟨F', hp, hfz, hobj⟩ := grown (e := e) hI h0 hxcell hycell huxs huys huxc huc (by simpa using hheap) hos hou hc1 hrest
          have hnk : μ (.loc dst 0) = none := hI.mu_none hk
          obtain ⟨hI2, hle2⟩ := Post.newTok (w := w') hp.1 hk (h := .spare w.heap.size ((xs.length + ys.length) * em) (c - (xs.length + ys.length)) em (xs.length + ys.length)) (n := xs.length + ys.length)
            (hobj _ _) (Hd.disj_new hI fun b hb => by rcases hb with ⟨_, hb⟩ | ⟨_, _, _, _, hb, _⟩ <;> cases hb; exact Nat.le_refl _)
          refine ⟨_, w', F', _, .inl (run1 hrun), ⟨hI2, { hp.2.1 with hd := fun k' h' hk' => ?_ }, Mu.le_trans hp.2.2 hle2⟩, ?_⟩
          · by_cases c' : k' = .loc dst 0
            · subst c'; rw [Mu.set_same] at hk'; cases hk'; exact Born.newRow (Nat.le_refl _)
            · rw [Mu.set_other c'] at hk'; exact hp.2.1.hd k' h' hk'
          · simp only [rel]
            refine ⟨some ⟨w.heap.size, 0, none⟩, c, by simp, ⟨.inr rfl, hfz⟩, by simpa using hc1, _, _, _, _, _, Mu.set_same .., by simp, fun _ => ⟨by simp; omega, ?_⟩⟩
            exact .inr ⟨rfl, 0, rfl, by simp⟩
        | tok k st =>
          obtain ⟨o, ho, hr⟩ := get_run hr
          cases o <;> simp only at hr <;> try (exact (fail_run hr).elim)
          rename_i n
          split at hr
          · rename_i hn
            have := ret_run hr; simp only at this; subst this
            obtain ⟨_, b, pos, r, e', n', hk, hle', hq⟩ := hown
            obtain ⟨h', hk', hobj'⟩ := hI.dom1 k _ ho
            rw [hk] at hk'; cases hk'
            obtain ⟨rfl, hsp⟩ := hobj'
            obtain ⟨hcr, hpos'⟩ := hq hn.symm
            by_cases hfit : ys.length ≤ r
            · -- in place
              have hr0 : r ≠ 0 := by omega
              rcases hpos' with h | ⟨rfl, ob, rfl, hob⟩
              · exact absurd h hr0
              rcases hsp with h | ⟨_, blk, tyb, hw, hl, hnf⟩
              · exact absurd h hr0
              have hm0 : 0 < e' := Nat.pos_of_ne_zero h0
              have hmul : ys.length * e' ≤ r * e' := Nat.mul_le_mul_right e' hfit
              have hst := run_storeCells' (P := P) hw (off := pos) (xs := uys) (by omega) huc
              have hp := Post.useSpare hI hk hfit hpos hm0 hw hl hnf (vs := uys) hlu.symm huc
              refine ⟨.slice (some ⟨b, ob, none⟩) (xs.length + ys.length) cap, _, _, _, .inl (run1 ?_), hp, ?_⟩
              · rw [hfits _ _ _ (by omega)]
                simp only [addr_add, hob, hst, Result.andThen_ok]
              · simp only [rel]
                have hF := hp.2.1.le
                refine ⟨some ⟨b, ob, none⟩, cap, by simp, ⟨.inr rfl, ?_⟩, by simp; omega, b, _, _, _, _, Mu.set_same .., by simp; omega, fun _ => ⟨by simp; omega, ?_⟩⟩
                · rw [frzE_append]
                  refine ⟨frzE_mono hF _ _ _ _ hbase.2, ?_⟩
                  rw [frzE_iff]
                  refine ⟨hycell, ?_⟩
                  have := frz_put hF huys
                  show frz _ b (ob + xs.length * e') _
                  rw [hob]
                  exact this
                · by_cases hz' : r - ys.length = 0
                  · exact .inl hz'
                  · refine .inr ⟨rfl, ob, rfl, ?_⟩
                    simp only [List.length_append, Nat.add_mul]
                    omega
            · -- a new block
              obtain ⟨c, w', rest, hc1, hrun, hheap, hos, hou, hrest⟩ := hgrows _ _ _ _ hfx (by omega) hcap hb1 hb2
              obtain ⟨F', hp, hfz, hobj⟩ := grown (e := e) hI h0 hxcell hycell huxs huys huxc huc (by simpa using hheap) hos hou hc1 hrest
              obtain ⟨hI2, hle2⟩ := Post.moveTok (w := w') hp.1 hk (h := .spare w.heap.size ((xs.length + ys.length) * em) (c - (xs.length + ys.length)) em (n' + ys.length)) (n := n' + ys.length)
                (.inr ⟨_, _, _, _, _, rfl, by omega⟩) (hobj _ _) (fun k' h' _ hk' => Hd.disj_new hI (fun b hb => by rcases hb with ⟨_, hb⟩ | ⟨_, _, _, _, hb, _⟩ <;> cases hb; exact Nat.le_refl _) k' h' hk')
              refine ⟨_, w', F', _, .inl (run1 hrun), ⟨hI2, { hp.2.1 with hd := fun k' h' hk' => ?_ }, Mu.le_trans hp.2.2 hle2⟩, ?_⟩
              · by_cases c' : k' = k
                · subst c'; rw [Mu.set_same] at hk'; cases hk'; exact Born.newRow (Nat.le_refl _)
                · rw [Mu.set_other c'] at hk'; exact hp.2.1.hd k' h' hk'
              · simp only [rel]
                refine ⟨some ⟨w.heap.size, 0, none⟩, c, by simp, ⟨.inr rfl, hfz⟩, by simpa using hc1, _, _, _, _, _, Mu.set_same .., by simp; omega, fun _ => ⟨by simp; omega, ?_⟩⟩
                exact .inr ⟨rfl, 0, rfl, by simp⟩
          · exact (fail_run hr).elim
    · exact (fail_run hr).elim
  case view k ev off len cap =>
    split at hr
    · rename_i hc3
      obtain ⟨rfl, rfl, hle⟩ := hc3
      obtain ⟨o, ho, hr⟩ := get_run hr
      cases o <;> simp only at hr <;> try (exact (fail_run hr).elim)
      rename_i cs
      split at hr
      · rename_i hfit
        have := ret_run hr; simp only at this; subst this
        simp only [rel] at hxs
        obtain ⟨b, hb, rfl⟩ := hxs
        obtain ⟨blk, tyb, hw, hcs, hnf⟩ := hI.cells ho hb
        have hlc := rels_length hcs
        have hst := run_storeCells' (P := P) hw (off := off + len) (xs := uys) (by omega) huc
        have hrt : rels F μ (ys.flatMap V.cellsOf) uys := rels_mono F.le_refl (noMu_le μ) _ _ huys
        refine ⟨.slice (some ⟨b, off, none⟩) (len + ys.length) cap, w.setRow b (blk.take (off + len) ++ uys ++ blk.drop (off + len + uys.length)).toArray, F, μ, .inl (run1 ?_), Post.setBlk hI hb (by simp) (fun b' hb' => setRow_other w b b' _ hb') rfl rfl ⟨_, tyb, setRow_heap w b _ _ tyb (0, 0) hw, rels_splice hcs hrt, hnf⟩, by simp only [rel]; exact ⟨b, hb, rfl⟩⟩
        rw [hfits _ _ _ hle]
        simp only [addr_add, Nat.mul_one, hst, Result.andThen_ok]
      · exact (fail_run hr).elim
    · exact (fail_run hr).elim
  case nilslc =>
    split at hr
    · rename_i hc3
      obtain ⟨hb1, hb2⟩ := hc3
      simp only [rel] at hxs
      subst hxs
      split at hr
      · rename_i hemp
        have := just_run hr; subst this
        have hys : ys = [] := by simpa using hemp
        subst hys
        have hu0 : uys = [] := by simpa using hlu.symm
        subst hu0
        refine Good.same hI (v := .slice none 0 0) (run1 ?_) (by simp [rel])
        rw [hfits _ _ _ (by simp)]
        simp
      · rename_i hemp
        have hpos : 0 < ys.length := by
          cases ys with
          | nil => simp at hemp
          | cons _ _ => simp
        obtain ⟨hk, hr⟩ := new_run hr
        have := ret_run hr; simp only at this; subst this
        have hfx : ∀ w' : World, w'.heap = w.heap → (Builtin.firstCells m 0 (.slice none 0 0)).run P w' = .ok #[] w' := fun w' hw' => by simp [Builtin.firstCells]
        obtain ⟨c, w', rest, hc1, hrun, hheap, hos, hou, hrest⟩ := hgrows none 0 0 _ hfx (by omega) (Nat.le_refl _) (by simpa using hb1) (by simpa using hb2)
        obtain ⟨F', hp, hfz, hobj⟩ := grown (e := e) (xs := []) (old := []) (rest := rest) (c := c) hI h0 (by simp) hycell (by simp [rels]) huys (by simp) huc (by simpa using hheap) hos hou (by simpa using hc1) (by simpa using hrest)
        simp only [List.length_nil, Nat.zero_add] at hobj hrun hc1
        obtain ⟨hI2, hle2⟩ := Post.newTok (w := w') hp.1 hk (h := .spare w.heap.size (ys.length * m) (c - ys.length) m ys.length) (n := ys.length)
          (hobj _ _) (Hd.disj_new hI fun b hb => by rcases hb with ⟨_, hb⟩ | ⟨_, _, _, _, hb, _⟩ <;> cases hb; exact Nat.le_refl _)
        refine ⟨_, w', F', _, .inl (run1 hrun), ⟨hI2, { hp.2.1 with hd := fun k' h' hk' => ?_ }, Mu.le_trans hp.2.2 hle2⟩, ?_⟩
        · by_cases c' : k' = .loc dst 0
          · subst c'; rw [Mu.set_same] at hk'; cases hk'; exact Born.newRow (Nat.le_refl _)
          · rw [Mu.set_other c'] at hk'; exact hp.2.1.hd k' h' hk'
        · simp only [rel]
          refine ⟨some ⟨w.heap.size, 0, none⟩, c, rfl, ⟨.inr rfl, by simpa using hfz⟩, hc1, _, _, _, _, _, Mu.set_same .., by simp, fun _ => ⟨by omega, ?_⟩⟩
          exact .inr ⟨rfl, 0, rfl, by simp⟩
    · exact (fail_run hr).elim

theorem good_append {t t' ty e : TypeId} {d : TypeDesc} {m by_ dst : Nat} {s x : V} {us u : Value} {ys : List V} {a : Ans} {l l' rd : List Key} (hI : Inv F μ σ w)
    (hu : P.underlying t = some (.slice e)) (hu' : P.underlying t' = some d) (hd : notInt d) (hs : sizeT P e = some m) (hb : bytesT P e = some by_) (hz : zeroSize P e = some m) (h0 : m ≠ 0)
    (hxs : rel F μ s us) (hxu : rel F μ x u) (hsrc : (source m x).run σ l' = some (ys, l)) (hr : (appendTo m by_ dst s ys).run σ l = some (a, rd)) :
    Good P (do pure (.value (← Builtin.append_ #[t, t'] ty #[us, u]))) F μ σ w a := by
  obtain ⟨hlen, hycell, uys, huys, hfirst, huc⟩ := source_run (P := P) hI hxu h0 hsrc
  have hlu := rels_length huys
  rw [flatMap_cells_length hycell] at hlu
  have hfirst' : ∀ w' : World, w'.heap = w.heap → (Builtin.firstCells m ys.length u).run P w' = .ok uys.toArray w' := fun w' hw' => by
    rw [hfirst w' hw' ys.length (Nat.le_refl _), hlu, List.take_length]
  exact good_append_gen (e := e) (by_ := by_) hI h0 hycell huys huc (fun base len cap h => run_append_fits hu hu' hd hs hlen (hfirst' w rfl) h)
    (fun base len cap old ho h1 h2 h3 h4 => run_append_grows (ty := ty) hu hu' hd hs hb hz hlen ho hfirst' h1 h2 h3 h4) hxs hr

end
end Go.Ev

namespace Go.Ev
open Go
section
variable {P : Program} {w : World} {F : Frz} {μ : Mu} {σ : Store}

/-- A row goes to another name, in its block or in a new one. -/
theorem Post.moveRow {w' : World} (hI : Inv F μ σ w) {k k2 : Key} {b s b2 s2 : Nat} {cs2 : List V} (hk : μ k = some (.blk b (some s))) (hk2 : σ.get k2 = none)
    (hsz : w.heap.size ≤ w'.heap.size) (hh : ∀ b', b' < w.heap.size → b' ≠ b → w'.heap[b']? = w.heap[b']?) (hos : w'.os = w.os) (hou : w'.output = w.output) (hb2 : b2 = b ∨ w.heap.size ≤ b2)
    (hr : ∀ μ', μ.le μ' → objRel F μ' w' (.row cs2) (.blk b2 (some s2))) :
    Post F μ w F ((μ.set k (.idle none)).set k2 (.blk b2 (some s2))) ((σ.put k .dead).put k2 (.row cs2)) w' := by
  have hne : k2 ≠ k := fun h => by
    subst h
    obtain ⟨o, ho⟩ := hI.dom2 _ _ hk
    rw [hk2] at ho; cases ho
  have hm2 : μ k2 = none := hI.mu_none hk2
  let μ' : Mu := (μ.set k (.idle none)).set k2 (.blk b2 (some s2))
  have e2 : μ' k2 = some (.blk b2 (some s2)) := Mu.set_same ..
  have e1 : μ' k = some (.idle none) := by
    show ((μ.set k (.idle none)).set k2 (.blk b2 (some s2))) k = _
    rw [Mu.set_other (Ne.symm hne), Mu.set_same]
  have eo : ∀ k', k' ≠ k → k' ≠ k2 → μ' k' = μ k' := fun k' h1 h2 => by
    show ((μ.set k (.idle none)).set k2 (.blk b2 (some s2))) k' = _
    rw [Mu.set_other h2, Mu.set_other h1]
  have hle : μ.le μ' := fun k' h' hk' => by
    by_cases c1 : k' = k
    · subst c1; rw [hk] at hk'; cases hk'; exact ⟨_, e1, .inr (.inr rfl)⟩
    · by_cases c2 : k' = k2
      · subst c2; rw [hm2] at hk'; cases hk'
      · exact ⟨h', by rw [eo k' c1 c2]; exact hk', Hd.le_refl _⟩
  have hget : ∀ k', ((σ.put k .dead).put k2 (.row cs2)).get k' = if k2 = k' then some (.row cs2) else if k = k' then some .dead else σ.get k' := fun k' => by
    rw [Store.get_put, Store.get_put]
  have hdis : ∀ k' h', k' ≠ k → μ k' = some h' → (Hd.blk b2 (some s2)).disj h' := fun k' h' hk' hm => by
    rcases hb2 with rfl | hb2
    · have := hI.apart k k' _ h' (Ne.symm hk') hk hm
      cases h' <;> exact this
    · exact Hd.disj_new hI (fun b' hb' => by rcases hb' with ⟨_, hb'⟩ | ⟨_, _, _, _, hb', _⟩ <;> cases hb'; exact hb2) k' h' hm
  show Post F μ w F μ' _ w'
  refine ⟨⟨fun a u ha => ?_, fun k' o' hk' => ?_, fun k' h' hk' => ?_, fun k1 k3 h1 h3 hne' f1 f3 => ?_⟩, ⟨F.le_refl, hsz, fun b' hb' => ?_, hos, hou, fun a u ha => .inl ha, fun k' h' hk' => ?_⟩, hle⟩
  · obtain ⟨g1, g2, g3⟩ := hI.frozen a u ha
    refine ⟨g1, ?_, g3⟩
    rw [← g2]
    simp only [World.cell?, hh a.block (hI.frz_lt ha) (hI.not_in_blk hk ha)]
  · rw [hget] at hk'
    split at hk'
    · rename_i he; subst he; cases hk'; exact ⟨_, e2, hr μ' hle⟩
    · split at hk'
      · rename_i _ he; subst he; cases hk'; exact ⟨_, e1, trivial⟩
      · rename_i c2 c1
        obtain ⟨h', g1, g2⟩ := hI.dom1 k' o' hk'
        refine ⟨h', by rw [eo k' (Ne.symm c1) (Ne.symm c2)]; exact g1, objRel_mono F.le_refl hle g2 (fun b' hb' => hh b' (objRel_lt g2 b' hb') ?_) (fun _ _ _ _ hq => hq)⟩
        have := hI.apart k k' _ h' c1 hk g1
        rcases hb' with ⟨_, rfl⟩ | ⟨p, r, e, n, rfl, h0⟩
        · exact Ne.symm this
        · rcases this with h | h
          · exact absurd h h0
          · exact Ne.symm h
  · rw [hget]
    split
    · exact ⟨_, rfl⟩
    · split
      · exact ⟨_, rfl⟩
      · rename_i c2 c1
        rw [eo k' (Ne.symm c1) (Ne.symm c2)] at hk'
        exact hI.dom2 k' h' hk'
  · by_cases c1 : k1 = k2
    · subst c1
      rw [e2] at f1; cases f1
      by_cases c3 : k3 = k
      · subst c3; rw [e1] at f3; cases f3; simp only [Hd.disj]
      · rw [eo k3 c3 (Ne.symm hne')] at f3
        exact hdis k3 h3 c3 f3
    · by_cases c2 : k1 = k
      · subst c2; rw [e1] at f1; cases f1; cases h3 <;> simp only [Hd.disj]
      · rw [eo k1 c2 c1] at f1
        by_cases c3 : k3 = k2
        · subst c3; rw [e2] at f3; cases f3
          exact Hd.disj_symm (hdis k1 h1 c2 f1)
        · by_cases c4 : k3 = k
          · subst c4; rw [e1] at f3; cases f3; cases h1 <;> simp only [Hd.disj]
          · rw [eo k3 c4 c3] at f3
            exact hI.apart k1 k3 h1 h3 hne' f1 f3
  · by_cases c : b' = b
    · subst c; exact .inl ⟨k, _, hk⟩
    · exact .inr (.inl (hh b' hb' c))
  · by_cases c1 : k' = k2
    · subst c1; rw [e2] at hk'; cases hk'
      rcases hb2 with rfl | hb2
      · exact .inr ⟨k, _, hk⟩
      · exact .inl hb2
    · by_cases c2 : k' = k
      · subst c2; rw [e1] at hk'; cases hk'; trivial
      · rw [eo k' c2 c1] at hk'; exact (Ext.refl μ F w).hd k' h' hk'

/-- What is appended, in memory. -/
theorem cellsR_run {esz n : Nat} {x : V} {u : Value} {ys : List V} {l l' : List Key} (hI : Inv F μ σ w) (hx : rel F μ x u) (h0 : esz ≠ 0) (h : (cellsR esz x).run σ l = some ((ys, n), l')) :
    (Builtin.lenOf u).run P w = .ok n w ∧ ys.length = n * esz ∧ ∃ us : List Value, rels F μ ys us ∧ (∀ (w' : World), w'.heap = w.heap → (Builtin.firstCells esz n u).run P w' = .ok us.toArray w') ∧ ∀ v ∈ us, v.oneCell' = true := by
  by_cases hrow : ∃ k e off len, x = .rowv k e off len
  · obtain ⟨k, e, off, len, rfl⟩ := hrow
    simp only [cellsR] at h
    split at h
    · rename_i he
      subst he
      obtain ⟨o, ho, h⟩ := get_run h
      cases hc : o.rowCells with
      | none => simp only [hc] at h; exact (fail_run h).elim
      | some cs =>
        simp only [hc] at h
        split at h
        · rename_i hcond
          obtain ⟨h1, h2⟩ := hcond
          simp only [Act.run, Option.some.injEq, Prod.mk.injEq] at h
          obtain ⟨⟨rfl, rfl⟩, _⟩ := h
          obtain ⟨b, oo, cap, us, rfl, _, hr, hul, hfirst⟩ := row_part (P := P) hI ho hc hx h1 h0
          refine ⟨by simp only [Builtin.lenOf, Sem.run_pure], h1, us, hr, fun w' hw' => ?_, oneCell_of_rels hr h2⟩
          have := hfirst w' hw' len (Nat.le_refl _)
          rwa [← hul, List.take_length] at this
        · exact (fail_run h).elim
    · exact (fail_run h).elim
  · have hsrc : ((source esz x).bind fun ys => Act.ret (if esz = 1 ∧ ys.all V.isCell = true then ys else ys.flatMap V.cellsOf, ys.length)).run σ l = some ((ys, n), l') := by
      unfold cellsR at h
      split at h
      · exact absurd ⟨_, _, _, _, rfl⟩ hrow
      · exact h
    obtain ⟨xs, l1, hs, hret⟩ := bind_run hsrc
    simp only [Act.run, Option.some.injEq, Prod.mk.injEq] at hret
    obtain ⟨⟨hys, rfl⟩, _⟩ := hret
    obtain ⟨hlen, hcell, us, hus, hfirst, huc⟩ := source_run (P := P) hI hx h0 hs
    have hflat : ys = xs.flatMap V.cellsOf := by
      rw [← hys]
      split
      · rename_i hc; rw [cells_self' hc.2]
      · rfl
    subst hflat
    have hul := rels_length hus
    rw [flatMap_cells_length hcell] at hul
    refine ⟨hlen, flatMap_cells_length hcell, us, rels_mono F.le_refl (noMu_le μ) _ _ hus, fun w' hw' => ?_, huc⟩
    rw [hfirst w' hw' xs.length (Nat.le_refl _), hul, List.take_length]

theorem good_appendR {t t' ty e : TypeId} {d : TypeDesc} {m by_ dst n : Nat} {s x : V} {us u : Value} {ys : List V} {a : Ans} {l l' rd : List Key} (hI : Inv F μ σ w)
    (hu : P.underlying t = some (.slice e)) (hu' : P.underlying t' = some d) (hd : notInt d) (hs : sizeT P e = some m) (hb : bytesT P e = some by_) (hz : zeroSize P e = some m) (h0 : m ≠ 0)
    (hxs : rel F μ s us) (hxu : rel F μ x u) (hsrc : (cellsR m x).run σ l' = some ((ys, n), l)) (hr : (appendRow m by_ dst s ys n).run σ l = some (a, rd)) :
    Good P (do pure (.value (← Builtin.append_ #[t, t'] ty #[us, u]))) F μ σ w a := by
  obtain ⟨hlen, hyl, uys, huys, hfirst, huc⟩ := cellsR_run (P := P) hI hxu h0 hsrc
  have hlu := rels_length huys
  rw [hyl] at hlu
  have hfits : ∀ (base : Option Addr) (len cap : Nat), len + n ≤ cap → (Builtin.append_ #[t, t'] ty #[.slice base len cap, u]).run P w =
      (((match base with | some a => storeCells (a.add (len * m)) uys | none => pure ()) : Sem Unit).run P w).andThen fun _ w' => .ok (.slice base (len + n) cap) w' := fun base len cap h => by
    have := run_append_fits (P := P) (ty := ty) (base := base) hu hu' hd hs hlen (hfirst w rfl) h
    cases base <;> simpa using this
  have hgrows : ∀ (base : Option Addr) (len cap : Nat) (old : List Value), (∀ w' : World, w'.heap = w.heap → (Builtin.firstCells m len (.slice base len cap)).run P w' = .ok old.toArray w') → ¬ len + n ≤ cap → len ≤ cap →
      (len + n) * by_ ≤ 1099511627776 → len + n ≤ 1099511627776 →
      ∃ (c : Nat) (w' : World) (rest : List Value), len + n ≤ c ∧ (Builtin.append_ #[t, t'] ty #[.slice base len cap, u]).run P w = .ok (.slice (some ⟨w.heap.size, 0, none⟩) (len + n) c) w' ∧
        w'.heap = w.heap.push (.cells (old ++ uys ++ rest).toArray e (0, 0)) ∧ w'.os = w.os ∧ w'.output = w.output ∧ rest.length = (c - (len + n)) * m := fun base len cap old ho h1 h2 h3 h4 => by
    obtain ⟨c, w', rest, g1, g2, g3, g4⟩ := run_append_grows (P := P) (ty := ty) (base := base) hu hu' hd hs hb hz hlen ho (fun w' hw' => hfirst w' hw') h1 h2 h3 h4
    exact ⟨c, w', rest, g1, g2, by simpa using g3, g4⟩
  have run1 : ∀ {v : Value} {w' : World}, (Builtin.append_ #[t, t'] ty #[us, u]).run P w = .ok v w' → (do pure (Next.value (← Builtin.append_ #[t, t'] ty #[us, u])) : Sem Next).run P w = .ok (.value v) w' := fun h => by
    simp only [Sem.run_bind, h, Result.andThen_ok, Sem.run_pure]
  have hnew : ∀ off, F ⟨w.heap.size, off, none⟩ = none := fun off => by
    cases hc : F ⟨w.heap.size, off, none⟩ with
    | none => rfl
    | some u => have := hI.frz_lt hc; simp at this
  have hn0 : n = 0 → uys = [] := fun h => by
    have : uys.length = 0 := by rw [← hlu, h, Nat.zero_mul]
    exact List.length_eq_zero_iff.1 this
  -- a new block
  have newblk : ∀ {w' : World} {old rest : List Value} {c len : Nat} {ocs : List V}, w'.heap = w.heap.push (.cells (old ++ uys ++ rest).toArray e (0, 0)) → rels F μ ocs old → ocs.length = len * m → rest.length = (c - (len + n)) * m → len + n ≤ c →
      ∀ μ', μ.le μ' → objRel F μ' w' (.row (ocs ++ ys)) (.blk w.heap.size (some (c * m))) := fun {w' old rest c len ocs} hh ho hol hrl hc μ' hm => by
    have hol' := rels_length ho
    have e1 : c * m = len * m + n * m + (c - (len + n)) * m := by
      rw [← Nat.add_mul, ← Nat.add_mul]; congr 1; omega
    refine ⟨_, e, push_get hh, by simp; omega, by simp; omega, ?_, hnew⟩
    have : (old ++ uys ++ rest).take (ocs ++ ys).length = old ++ uys := by
      rw [List.take_append_of_le_length (by simp; omega), List.take_of_length_le (by simp; omega)]
    rw [this]
    exact rels_mono F.le_refl hm _ _ (rels_append ho huys)
  unfold appendRow at hr
  split at hr
  · -- a row
    rename_i k ee off len
    split at hr
    · rename_i hc4
      obtain ⟨rfl, he0, hb1, hb2⟩ := hc4
      obtain ⟨o, ho, hr'⟩ := get_run hr
      clear hr
      have hr := hr'
      clear hr'
      cases o <;> simp only at hr <;> try (exact (fail_run hr).elim)
      rename_i cs
      split at hr
      · rename_i hkn
        have hxs0 := hxs
        simp only [rel] at hxs
        obtain ⟨_, h, q, hm, hq, hat⟩ := hxs
        obtain ⟨b, sz, rfl, rfl, blk, tyb, hw, f1, f2, f3, f4⟩ := hI.row ho hm hq
        have hpart := row_part (P := P) hI ho rfl hxs0 (by simp; omega) h0
        obtain ⟨oo, cap, rfl, hcap⟩ := hat b sz rfl
        obtain ⟨_, _, _, ous, heq, hlc, hor, hol, hofirst⟩ := hpart
        simp only [Value.slice.injEq, true_and, Option.some.injEq] at heq
        obtain ⟨_, rfl⟩ := heq
        have hold : ∀ w' : World, w'.heap = w.heap → (Builtin.firstCells ee len (.slice (some ⟨b, oo, none⟩) len cap)).run P w' = .ok ous.toArray w' := fun w' hw' => by
          have := hofirst w' hw' len (Nat.le_refl _)
          rwa [← hol, List.take_length] at this
        split at hr
        · -- nothing
          rename_i hn
          have := just_run hr; subst this
          refine Good.same hI (v := .slice (some ⟨b, oo, none⟩) len cap) (run1 ?_) hxs0
          rw [hfits _ _ _ (by omega), hn0 hn]
          simp [storeCells, hn]
        · rename_i hnn
          have hnpos : 0 < n * ee := Nat.mul_pos (Nat.pos_of_ne_zero hnn) (Nat.pos_of_ne_zero h0)
          have e3 : (len + n) * ee = len * ee + n * ee := Nat.add_mul ..
          split at hr
          · -- within what is known
            rename_i hfit
            have := ret_run hr; simp only at this; subst this
            rcases hcap with ⟨rfl, hcap⟩ | ⟨_, _, hcap⟩
            · have hcl : len + n ≤ cap := by
                have : (len + n) * ee ≤ cap * ee := by omega
                exact Nat.le_of_mul_le_mul_right this (Nat.pos_of_ne_zero h0)
              have hst := run_storeCells' (P := P) hw (off := oo + len * ee) (xs := uys) (by omega) huc
              refine ⟨.slice (some ⟨b, oo, none⟩) (len + n) cap, w.setRow b (blk.take (oo + len * ee) ++ uys ++ blk.drop (oo + len * ee + uys.length)).toArray, F, μ, .inl (run1 ?_), Post.setBlk hI hm (by simp) (fun b' hb' => setRow_other w b b' _ hb') rfl rfl
                (row_splice hw f1 f2 f3 huys f4 (by omega)), ?_⟩
              · rw [hfits _ _ _ hcl]
                simp only [addr_add, hst, Result.andThen_ok]
              · simp only [rel]
                exact ⟨⟨_, _, _, rfl⟩, _, _, hm, rfl, fun b' s' h => by cases h; exact ⟨oo, cap, rfl, .inl ⟨rfl, hcap⟩⟩⟩
            · exfalso; omega
          · rename_i hfit
            split at hr
            · rename_i hoff
              subst hoff
              obtain ⟨hk2, hr⟩ := new_run hr
              have := ret_run hr; simp only at this; subst this
              have hoc : rels F μ (cs.take (len * ee)) ous := by simpa using hor
              have hocl : (cs.take (len * ee)).length = len * ee := by simp; omega
              by_cases hcl : len + n ≤ cap
              · -- in place
                rcases hcap with ⟨rfl, hcap⟩ | ⟨h1, _, _⟩
                · have hcm : (len + n) * ee ≤ cap * ee := Nat.mul_le_mul_right ee hcl
                  have hst := run_storeCells' (P := P) hw (off := len * ee) (xs := uys) (by omega) huc
                  have hpost := Post.moveRow (w' := w.setRow b (blk.take (len * ee) ++ uys ++ blk.drop (len * ee + uys.length)).toArray) hI (k := k) (k2 := .loc dst 0) (s2 := sz) (cs2 := cs.take (len * ee) ++ ys) hm hk2 (by simp) (fun b' _ hb' => setRow_other w b b' _ hb') rfl rfl (.inl rfl) (fun μ' hle => by
                    refine ⟨_, tyb, setRow_heap w b _ _ tyb (0, 0) hw, by simp; omega, by simp; omega, ?_, f4⟩
                    have e5 : (blk.take (len * ee) ++ uys ++ blk.drop (len * ee + uys.length)).take (cs.take (len * ee) ++ ys).length = blk.take (len * ee) ++ uys := by
                      rw [List.take_append_of_le_length (by simp; omega), List.take_of_length_le (by simp; omega)]
                    rw [e5]
                    refine rels_append ?_ (rels_mono F.le_refl hle _ _ huys)
                    have := rels_take (len * ee) f3
                    rw [List.take_take, Nat.min_eq_left (by omega)] at this
                    exact rels_mono F.le_refl hle _ _ this)
                  refine ⟨.slice (some ⟨b, 0, none⟩) (len + n) cap, _, F, _, .inl (run1 ?_), hpost, ?_⟩
                  · rw [hfits _ _ _ hcl]
                    simp only [addr_add, Nat.zero_add, hst, Result.andThen_ok]
                  · simp only [rel]
                    exact ⟨⟨_, _, _, rfl⟩, _, _, Mu.set_same .., rfl, fun b' s' h => by cases h; exact ⟨0, cap, rfl, .inl ⟨rfl, hcap⟩⟩⟩
                · omega
              · obtain ⟨c, w', rest, hc1, hrun, hheap, hos, hou, hrest⟩ := hgrows _ _ _ _ hold hcl hlc hb1 hb2
                have hpost := Post.moveRow (w' := w') hI (k := k) (k2 := .loc dst 0) (b2 := w.heap.size) (s2 := c * ee) (cs2 := cs.take (len * ee) ++ ys) hm hk2 (by rw [push_size hheap]; omega) (fun b' hb' _ => push_lt hheap hb') hos hou (.inr (Nat.le_refl _))
                  (newblk hheap hoc hocl hrest hc1)
                refine ⟨_, w', F, _, .inl (run1 hrun), hpost, ?_⟩
                simp only [rel]
                exact ⟨⟨_, _, _, rfl⟩, _, _, Mu.set_same .., rfl, fun b' s' h => by cases h; exact ⟨0, c, rfl, .inl ⟨rfl, by simp⟩⟩⟩
            · exact (fail_run hr).elim
      · exact (fail_run hr).elim
    · exact (fail_run hr).elim
  · -- a row of no spare places
    rename_i ee xs
    split at hr
    · rename_i hc4
      obtain ⟨rfl, he0, hb1, hb2⟩ := hc4
      have hxs0 := hxs
      have hss : (source ee (.slc ee xs .tight)).run σ [] = some (xs, []) := by simp [source, Act.run]
      obtain ⟨_, hxcell, uxs, huxs, hfirstx, huxc⟩ := source_run (P := P) hI hxs h0 hss
      have hlx := rels_length huxs
      rw [flatMap_cells_length hxcell] at hlx
      simp only [rel] at hxs
      obtain ⟨base, cap, rfl, hbase, hown⟩ := hxs
      have hcl : cap = xs.length := hown
      split at hr
      · rename_i hn
        have := just_run hr; subst this
        refine Good.same hI (v := .slice base xs.length cap) (run1 ?_) hxs0
        rw [hfits _ _ _ (by omega), hn0 hn]
        cases base <;> simp [storeCells, hn]
      · rename_i hnn
        obtain ⟨hk, hr⟩ := new_run hr
        have := ret_run hr; simp only at this; subst this
        have hfx : ∀ w' : World, w'.heap = w.heap → (Builtin.firstCells ee xs.length (.slice base xs.length cap)).run P w' = .ok uxs.toArray w' := fun w' hw' => by
          rw [hfirstx w' hw' xs.length (Nat.le_refl _), hlx, List.take_length]
        obtain ⟨c, w', rest, hc1, hrun, hheap, hos, hou, hrest⟩ := hgrows _ _ _ _ hfx (by omega) (by omega) hb1 hb2
        have hflat : (if ee = 1 ∧ xs.all V.isCell = true then xs else xs.flatMap V.cellsOf) = xs.flatMap V.cellsOf := by
          split
          · rename_i hc; rw [cells_self' hc.2]
          · rfl
        rw [hflat]
        have hpost := Post.newBlkT (some (c * ee)) (w' := w') hI hk (o := .row (xs.flatMap V.cellsOf ++ ys)) hheap hos hou (newblk hheap (rels_mono F.le_refl (noMu_le μ) _ _ huxs) (flatMap_cells_length hxcell) hrest hc1)
        refine ⟨_, w', F, _, .inl (run1 hrun), hpost, ?_⟩
        simp only [rel]
        exact ⟨⟨_, _, _, rfl⟩, _, _, Mu.set_same .., rfl, fun b' s' h => by cases h; exact ⟨0, c, rfl, .inl ⟨rfl, by simp⟩⟩⟩
    · exact (fail_run hr).elim
  · split at hr
    · rename_i hc4
      obtain ⟨he0, hb1, hb2⟩ := hc4
      have hxs0 := hxs
      simp only [rel] at hxs
      subst hxs
      split at hr
      · rename_i hn
        have := just_run hr; subst this
        refine Good.same hI (v := .slice none 0 0) (run1 ?_) hxs0
        rw [hfits _ _ _ (by omega), hn0 hn]
        simp [hn]
      · rename_i hnn
        obtain ⟨hk, hr⟩ := new_run hr
        have := ret_run hr; simp only at this; subst this
        have hfx : ∀ w' : World, w'.heap = w.heap → (Builtin.firstCells m 0 (.slice none 0 0)).run P w' = .ok ([] : List Value).toArray w' := fun w' hw' => by simp [Builtin.firstCells]
        obtain ⟨c, w', rest, hc1, hrun, hheap, hos, hou, hrest⟩ := hgrows none 0 0 _ hfx (by omega) (Nat.le_refl _) (by simpa using hb1) (by simpa using hb2)
        have hpost := Post.newBlkT (some (c * m)) (w' := w') hI hk (o := .row ys) hheap hos hou (fun μ' hle => by
          have := newblk (ocs := []) hheap (by simp [rels]) (by simp) hrest hc1 μ' hle
          simpa using this)
        refine ⟨_, w', F, _, .inl (run1 hrun), hpost, ?_⟩
        simp only [rel]
        exact ⟨⟨_, _, _, rfl⟩, _, _, Mu.set_same .., rfl, fun b' s' h => by cases h; exact ⟨0, c, by simp, .inl ⟨rfl, by simp⟩⟩⟩
    · exact (fail_run hr).elim
  · exact (fail_run hr).elim
end
end Go.Ev

namespace Go.Ev
open Go
section
variable {P : Program} {w : World} {F : Frz} {μ : Mu} {σ : Store}

theorem forIn_range_ok {f : Nat → Sem PUnit} : ∀ (n i : Nat), (∀ j, i ≤ j → j < i + n → (f j).run P w = .ok ⟨⟩ w) →
    (forIn (List.range' i n) PUnit.unit (fun j _ => do f j; pure (ForInStep.yield PUnit.unit)) : Sem PUnit).run P w = .ok ⟨⟩ w
  | 0, i, _ => by simp
  | n + 1, i, h => by
    rw [List.range'_succ, List.forIn_cons]
    simp only [Sem.run_bind, h i (Nat.le_refl _) (by omega), Result.andThen_ok, Sem.run_pure]
    exact forIn_range_ok n (i + 1) (fun j h1 h2 => h j (by omega) (by omega))

theorem run_checkKey_flat (em : Bool) : ∀ (n : Nat) (t : TypeId) (m : Nat), flatEq P n t = true → sizeT P t = some m → ∀ (d : Nat) (us : List Value), us.length = m →
    (Instr.checkKey em (d + n) t (mkv P t us)).run P w = .ok () w
  | 0, _, _, h, _, _, _, _ => by simp [flatEq] at h
  | n + 1, t, m, h, hm, d, us, hl => by
    have h0 := h
    unfold flatEq at h
    rw [show d + (n + 1) = (d + n) + 1 from rfl]
    unfold mkv Instr.checkKey
    split at h
    · rename_i k hu
      have hg : aggT P t = false := by simp [aggT, hu]
      simp only [Sem.run_bind, run_underlying hu, Result.andThen_ok, Sem.run_pure]
    · rename_i len e hu
      have hg : aggT P t = true := by simp [aggT, hu]
      simp only [Bool.and_eq_true, beq_iff_eq] at h
      obtain ⟨he', hsz⟩ := h
      obtain ⟨m', hm'⟩ := flatEq_size he'
      rw [hm, hm'] at hsz
      simp at hsz
      simp only [hg, if_true, Sem.run_bind, run_underlying hu, Result.andThen_ok]
      simp only [Std.Legacy.Range.forIn_eq_forIn_range', Std.Legacy.Range.size, Nat.sub_zero, Nat.add_one_sub_one, Nat.div_one]
      have := forIn_range_ok (P := P) (w := w) (f := fun i => do
        let x ← sizeOf e
        let y ← part e us.toArray (i * x)
        Instr.checkKey em (d + n) e y) len 0 (fun j _ hj => by
          have hle : (j + 1) * m' ≤ len * m' := Nat.mul_le_mul_right m' (by omega)
          have e3 : (j + 1) * m' = j * m' + m' := by rw [Nat.add_mul, Nat.one_mul]
          simp only [Sem.run_bind, run_sizeOf' hm', Result.andThen_ok, run_part (P := P) (w := w) hm' (flatEq_agg he' hm') (off := j * m') (us := us) (by omega)]
          exact run_checkKey_flat em n e m' he' hm' d _ (by simp; omega))
      simp only [bind_assoc] at this ⊢
      rw [this]; rfl
    · rename_i fs hu
      have hg : aggT P t = true := by simp [aggT, hu]
      simp only [Bool.and_eq_true, beq_iff_eq, Bool.not_eq_true', List.all_eq_true, bne_iff_ne, ne_eq] at h
      obtain ⟨⟨⟨hs, hall⟩, hc⟩, hsz⟩ := h
      rw [hm] at hsz
      simp at hsz
      simp only [hg, if_true, Sem.run_bind, run_underlying hu, Result.andThen_ok]
      rw [← Array.forIn_toList]
      have key : ∀ (l : List Field) (o : Nat), (∀ f ∈ l, f.name ≠ "_" ∧ flatEq P n f.type = true) → flatEq.contig P o l = true → o + (l.map fun f => (sizeT P f.type).getD 0).sum = us.length →
          (forIn l PUnit.unit (fun f _ => do
            if f.name ≠ "_" then
              let y ← part f.type us.toArray f.offset
              Instr.checkKey em (d + n) f.type y
              pure (ForInStep.yield PUnit.unit)
            else pure (ForInStep.yield PUnit.unit)) : Sem PUnit).run P w = .ok ⟨⟩ w := by
        intro l
        induction l with
        | nil => intro o _ _ _; simp
        | cons f r ih =>
          intro o ha hcc hsum
          obtain ⟨hn, hfl⟩ := ha f (by simp)
          obtain ⟨m', hm'⟩ := flatEq_size hfl
          simp only [flatEq.contig, Bool.and_eq_true, beq_iff_eq, hm', Option.getD_some] at hcc
          simp only [List.map_cons, List.sum_cons, hm', Option.getD_some] at hsum
          rw [List.forIn_cons]
          simp only [hn, ne_eq, not_false_eq_true, if_true, Sem.run_bind, hcc.1, run_part (P := P) (w := w) hm' (flatEq_agg hfl hm') (off := o) (us := us) (by omega), Result.andThen_ok,
            run_checkKey_flat em n f.type m' hfl hm' d _ (show ((us.drop o).take m').length = m' by simp; omega), Sem.run_pure]
          exact ih (o + m') (fun g hg => ha g (by simp [hg])) hcc.2 (by omega)
      have := key fs.toList 0 (fun f hf => hall f hf) hc (by simp; omega)
      rw [this]; rfl
    · cases h

theorem keyForm_spec {kt : TypeId} {kf : Option Nat} (h : keyForm P kt = some kf) : flatEq P 20 kt = true ∧ ((∃ n, kf = some n ∧ aggT P kt = true ∧ sizeT P kt = some n) ∨ (kf = none ∧ aggT P kt = false)) := by
  unfold keyForm at h
  split at h
  · rename_i hf
    refine ⟨hf, ?_⟩
    split at h
    · rename_i hg
      simp only [Option.map_eq_some_iff] at h
      obtain ⟨n, hn, rfl⟩ := h
      exact .inl ⟨n, rfl, hg, hn⟩
    · rename_i hg
      cases h
      exact .inr ⟨rfl, by simpa using hg⟩
  · cases h

theorem flatEq_notAgg {n : Nat} {t : TypeId} (h : flatEq P n t = true) (hg : aggT P t = false) : ∃ k, P.underlying t = some (.int k) := by
  cases n with
  | zero => simp [flatEq] at h
  | succ n =>
    unfold flatEq at h
    unfold aggT at hg
    split at h
    · rename_i k hu; exact ⟨k, hu⟩
    · rename_i hu; simp [hu] at hg
    · rename_i hu; simp [hu] at hg
    · cases h

/-- A key's value in memory: its cells. -/
theorem key_cells {kt : TypeId} {kf : Option Nat} {k : V} {u : Value} (h : keyForm P kt = some kf) (hk : keyOk kf k = true) (hr : rel F μ k u) :
    ∃ m us, sizeT P kt = some m ∧ us.length = m ∧ u = mkv P kt us ∧ rels F μ k.cellsOf us := by
  obtain ⟨hf, ⟨n, rfl, hg, hn⟩ | ⟨rfl, hg⟩⟩ := keyForm_spec h
  · cases k <;> simp only [keyOk, Bool.false_eq_true] at hk
    rename_i cs
    simp only [Bool.and_eq_true, decide_eq_true_eq] at hk
    simp only [rel] at hr
    obtain ⟨us, rfl, hc⟩ := hr
    exact ⟨n, us, hn, by rw [← rels_length hc]; exact hk.1, by simp [mkv, hg], hc⟩
  · cases k <;> simp only [keyOk, Bool.false_eq_true] at hk
    rename_i kk nn
    simp only [rel] at hr
    subst hr
    obtain ⟨m, hm⟩ := flatEq_size hf
    have := flatEq_agg hf hm hg
    subst this
    exact ⟨1, [Value.int kk nn], hm, rfl, by simp [mkv, hg], by simp [V.cellsOf, rels, rel]⟩

theorem run_checkKey' {kt : TypeId} {kf : Option Nat} {k : V} {u : Value} (em : Bool) (h : keyForm P kt = some kf) (hk : keyOk kf k = true) (hr : rel F μ k u) : (Instr.checkKey em 10000 kt u).run P w = .ok () w := by
  obtain ⟨m, us, hm, hl, rfl, _⟩ := key_cells h hk hr
  exact run_checkKey_flat em 20 kt m (keyForm_spec h).1 hm 9980 us hl

theorem eqKey_cells {kf : Option Nat} {x y : V} {r : Bool} (h : eqKey kf x y = some r) : eqCells x.cellsOf y.cellsOf = some r := by
  unfold eqKey at h
  split at h
  · simp only [V.cellsOf, eqCells, h]; cases r <;> rfl
  · split at h
    · exact h
    · cases h
  · cases h

theorem run_equal_key {kt : TypeId} {kf : Option Nat} {x y : V} {u v : Value} {r : Bool} (h : keyForm P kt = some kf) (he : eqKey kf x y = some r) (hx : rel F μ x u) (hy : rel F μ y v) :
    (Op.equal kt u v).run P w = .ok r w := by
  obtain ⟨hf, hc⟩ := keyForm_spec h
  obtain ⟨m, hm⟩ := flatEq_size hf
  have key : ∀ us vs, rels F μ x.cellsOf us → rels F μ y.cellsOf vs → x.cellsOf.length = m → y.cellsOf.length = m → (Op.equal kt (mkv P kt us) (mkv P kt vs)).run P w = .ok r w := fun us vs h1 h2 h3 h4 =>
    run_equalIn_flat 20 kt m hf hm 9980 _ _ us vs r h1 h2 h3 h4 (eqKey_cells he)
  unfold eqKey at he
  split at he
  · rcases hc with ⟨n, hn, _⟩ | ⟨_, hg⟩
    · cases hn
    have := flatEq_agg hf hm hg
    subst this
    simp only [rel] at hx hy
    subst hx hy
    have := key [_] [_] (by simp only [V.cellsOf, rels, rel]; exact ⟨_, _, rfl, rfl, rfl⟩) (by simp only [V.cellsOf, rels, rel]; exact ⟨_, _, rfl, rfl, rfl⟩) rfl rfl
    simpa [mkv, hg] using this
  · split at he
    · rename_i n xs ys hl
      rcases hc with ⟨n', hn, hg, hs⟩ | ⟨hn, _⟩
      · cases hn
        rw [hm] at hs; cases hs
        simp only [rel] at hx hy
        obtain ⟨us, rfl, h1⟩ := hx
        obtain ⟨vs, rfl, h2⟩ := hy
        have := key us vs h1 h2 hl.1 hl.2
        simpa [mkv, hg] using this
      · cases hn
    · cases he
  · cases he

/-- Where a key stands. -/
def posK (kf : Option Nat) (k : V) : List (V × V) → Option (Option Nat)
  | [] => some none
  | (k', _) :: r => match eqKey kf k k' with
    | some true => some (some 0)
    | some false => (posK kf k r).map fun o => o.map (· + 1)
    | none => none

theorem findAsking_run {kt : TypeId} {kf : Option Nat} {k : V} {u : Value} (h : keyForm P kt = some kf) (hk : rel F noMu k u) : ∀ (es : List (V × V)) (l : List MapEntry) (i : Nat) {r : Option Nat}, mapRel F μ es l → posK kf k es = some r →
    (Instr.findAsking kt u l i).run P w = .ok (r.bind fun j => (l[j]?).map fun e => (i + j, e.val)) w
  | [], l, i, r, hm, hp => by
    simp only [mapRel] at hm; subst hm
    simp only [posK, Option.some.injEq] at hp; subst hp
    simp [Instr.findAsking]
  | (k', v') :: es, l, i, r, hm, hp => by
    obtain ⟨e, l', rfl, hk', hv', hm'⟩ := hm
    simp only [posK] at hp
    split at hp
    · rename_i he
      cases hp
      simp [Instr.findAsking, run_equal_key h he hk hk']
    · rename_i he
      simp only [Option.map_eq_some_iff] at hp
      obtain ⟨r', hr', rfl⟩ := hp
      simp only [Instr.findAsking, Sem.run_bind, run_equal_key h he hk hk', Result.andThen_ok, Bool.false_eq_true, if_false]
      rw [findAsking_run h hk es l' (i + 1) hm' hr']
      cases r' with
      | none => simp
      | some j => simp [Nat.add_assoc, Nat.add_comm 1 j]
    · cases hp

theorem findNow_int {kt : TypeId} {q : IntKind} {k : V} {u : Value} (hq : P.underlying kt = some (.int q)) (hk : rel F noMu k u) (hok : keyOk none k = true) : ∀ (es : List (V × V)) (l : List MapEntry) (i : Nat) {r : Option Nat}, mapRel F μ es l → posK none k es = some r →
    Instr.findNow (.int q) u l i = some (r.bind fun j => (l[j]?).map fun e => (i + j, e.val))
  | [], l, i, r, hm, hp => by
    simp only [mapRel] at hm; subst hm
    simp only [posK, Option.some.injEq] at hp; subst hp
    simp [Instr.findNow]
  | (k', v') :: es, l, i, r, hm, hp => by
    obtain ⟨e, l', rfl, hk', hv', hm'⟩ := hm
    simp only [posK] at hp
    have key : ∀ b, eqKey none k k' = some b → Instr.sameNow (.int q) u e.key = some b := fun b he => by
      unfold eqKey at he
      split at he
      · simp only [rel] at hk hk'
        rw [hk']; subst hk
        unfold eqCell at he
        simp only at he
        split at he
        · rename_i hkk; subst hkk; cases he; simp [Instr.sameNow]
        · cases he
      · rename_i hh; cases hh
      · cases he
    split at hp
    · rename_i he
      cases hp
      simp [Instr.findNow, key _ he]
    · rename_i he
      simp only [Option.map_eq_some_iff] at hp
      obtain ⟨r', hr', rfl⟩ := hp
      simp only [Instr.findNow, key _ he]
      rw [findNow_int hq hk hok es l' (i + 1) hm' hr']
      cases r' with
      | none => simp
      | some j => simp [Nat.add_assoc, Nat.add_comm 1 j]
    · cases hp

theorem run_findKey' {kt : TypeId} {kf : Option Nat} {k : V} {u : Value} {es : List (V × V)} {l : List MapEntry} {r : Option Nat} (h : keyForm P kt = some kf) (hok : keyOk kf k = true) (hk : rel F noMu k u) (hm : mapRel F μ es l) (hp : posK kf k es = some r) :
    (Instr.findKey kt u l).run P w = .ok (r.bind fun j => (l[j]?).map fun e => (j, e.val)) w := by
  obtain ⟨hf, hc⟩ := keyForm_spec h
  unfold Instr.findKey
  rcases hc with ⟨n, rfl, hg, hs⟩ | ⟨rfl, hg⟩
  · have hu : ∃ d, P.underlying kt = some d ∧ ∀ q, d ≠ .int q := by
      obtain ⟨_, d, _, _, hd⟩ := sizeT_info hs
      exact ⟨d, hd, fun q hq => by subst hq; simp [aggT, hd] at hg⟩
    obtain ⟨d, hd, hq⟩ := hu
    simp only [Sem.run_bind, run_underlying hd, Result.andThen_ok]
    cases es with
    | nil =>
      simp only [mapRel] at hm; subst hm
      simp only [posK, Option.some.injEq] at hp; subst hp
      simp [Instr.findNow]
    | cons e es =>
      obtain ⟨k', v'⟩ := e
      have hm0 := hm
      obtain ⟨e, l', rfl, hk', hv', hm'⟩ := hm
      have : Instr.findNow d u (e :: l') 0 = none := by
        cases k <;> simp only [keyOk, Bool.false_eq_true] at hok
        simp only [rel] at hk
        obtain ⟨us, rfl, _⟩ := hk
        simp only [Instr.findNow]
        have : Instr.sameNow d (.agg us.toArray) e.key = none := by
          cases d <;> simp [Instr.sameNow]
        rw [this]
      rw [this]
      simp only
      rw [findAsking_run h hk _ _ 0 hm0 hp]
      simp
  · obtain ⟨q, hq⟩ := flatEq_notAgg hf hg
    simp only [Sem.run_bind, run_underlying hq, Result.andThen_ok, findNow_int hq hk hok _ _ 0 hm hp, Sem.run_pure]
    simp

theorem findK_pos {kf : Option Nat} {k : V} : ∀ {es : List (V × V)} {r : Option V}, findK kf k es = some r → ∃ p, posK kf k es = some p ∧ ((p = none ∧ r = none) ∨ ∃ i kv, p = some i ∧ es[i]? = some kv ∧ r = some kv.2)
  | [], r, h => by simp only [findK, Option.some.injEq] at h; subst h; exact ⟨none, rfl, .inl ⟨rfl, rfl⟩⟩
  | (k', v') :: es, r, h => by
    simp only [findK] at h
    split at h
    · rename_i he; cases h; exact ⟨some 0, by simp [posK, he], .inr ⟨0, (k', v'), rfl, rfl, rfl⟩⟩
    · rename_i he
      obtain ⟨p, hp, hr⟩ := findK_pos h
      refine ⟨p.map (· + 1), by simp [posK, he, hp], ?_⟩
      rcases hr with ⟨rfl, rfl⟩ | ⟨i, kv, rfl, hi, rfl⟩
      · exact .inl ⟨rfl, rfl⟩
      · exact .inr ⟨i + 1, kv, rfl, by simpa using hi, rfl⟩
    · cases h

theorem setK_pos {kf : Option Nat} {k v : V} : ∀ {es es' : List (V × V)}, setK kf k v es = some es' → ∃ p, posK kf k es = some p ∧ ((p = none ∧ es' = es ++ [(k, v)]) ∨ ∃ i kv, p = some i ∧ es[i]? = some kv ∧ eqKey kf k kv.1 = some true ∧ es' = es.set i (k, v))
  | [], es', h => by simp only [setK, Option.some.injEq] at h; subst h; exact ⟨none, rfl, .inl ⟨rfl, rfl⟩⟩
  | (k', v') :: es, es', h => by
    simp only [setK] at h
    split at h
    · rename_i he; cases h; exact ⟨some 0, by simp [posK, he], .inr ⟨0, (k', v'), rfl, rfl, he, rfl⟩⟩
    · rename_i he
      split at h
      · rename_i r hr
        cases h
        obtain ⟨p, hp, hc⟩ := setK_pos hr
        refine ⟨p.map (· + 1), by simp [posK, he, hp], ?_⟩
        rcases hc with ⟨rfl, rfl⟩ | ⟨i, kv, rfl, hi, hk, rfl⟩
        · exact .inl ⟨rfl, rfl⟩
        · exact .inr ⟨i + 1, kv, rfl, by simpa using hi, hk, rfl⟩
      · cases h
    · cases h

theorem delK_pos {kf : Option Nat} {k : V} : ∀ {es es' : List (V × V)}, delK kf k es = some es' → ∃ p, posK kf k es = some p ∧ ((p = none ∧ es' = es) ∨ ∃ i, p = some i ∧ i < es.length ∧ es' = es.eraseIdx i)
  | [], es', h => by simp only [delK, Option.some.injEq] at h; subst h; exact ⟨none, rfl, .inl ⟨rfl, rfl⟩⟩
  | (k', v') :: es, es', h => by
    simp only [delK] at h
    split at h
    · rename_i he; cases h; exact ⟨some 0, by simp [posK, he], .inr ⟨0, rfl, by simp, rfl⟩⟩
    · rename_i he
      split at h
      · rename_i r hr
        cases h
        obtain ⟨p, hp, hc⟩ := delK_pos hr
        refine ⟨p.map (· + 1), by simp [posK, he, hp], ?_⟩
        rcases hc with ⟨rfl, rfl⟩ | ⟨i, rfl, hi, rfl⟩
        · exact .inl ⟨rfl, rfl⟩
        · exact .inr ⟨i + 1, rfl, by simp; omega, rfl⟩
      · cases h
    · cases h

theorem mapRel_get : ∀ {es : List (V × V)} {l : List MapEntry} {i : Nat} {kv : V × V}, mapRel F μ es l → es[i]? = some kv → ∃ e, l[i]? = some e ∧ rel F noMu kv.1 e.key ∧ rel F μ kv.2 e.val
  | [], _, _, _, _, h => by simp at h
  | (k, v) :: es, l, i, kv, hm, h => by
    obtain ⟨e, l', rfl, hk, hv, hm'⟩ := hm
    cases i with
    | zero => simp at h; subst h; exact ⟨e, rfl, hk, hv⟩
    | succ i => simp at h; simpa using mapRel_get hm' h

theorem mapRel_length : ∀ {es : List (V × V)} {l : List MapEntry}, mapRel F μ es l → es.length = l.length
  | [], _, h => by simp only [mapRel] at h; subst h; rfl
  | (_, _) :: _, _, h => by obtain ⟨_, _, rfl, _, _, hm⟩ := h; simp [mapRel_length hm]

theorem mapRel_append : ∀ {es : List (V × V)} {l : List MapEntry} {k v : V} {e : MapEntry}, mapRel F μ es l → rel F noMu k e.key → rel F μ v e.val → mapRel F μ (es ++ [(k, v)]) (l ++ [e])
  | [], _, k, v, e, h, h1, h2 => by simp only [mapRel] at h; subst h; exact ⟨e, [], rfl, h1, h2, rfl⟩
  | (_, _) :: _, _, k, v, e, h, h1, h2 => by obtain ⟨e', l', rfl, h3, h4, hm⟩ := h; exact ⟨e', _, rfl, h3, h4, mapRel_append hm h1 h2⟩

theorem mapRel_set : ∀ {es : List (V × V)} {l : List MapEntry} {i : Nat} {k v : V} {e : MapEntry}, mapRel F μ es l → rel F noMu k e.key → rel F μ v e.val → mapRel F μ (es.set i (k, v)) (l.set i e)
  | [], _, _, _, _, _, h, _, _ => by simp only [mapRel] at h; subst h; simp [mapRel]
  | (_, _) :: _, _, i, k, v, e, h, h1, h2 => by
    obtain ⟨e', l', rfl, h3, h4, hm⟩ := h
    cases i with
    | zero => exact ⟨e, l', rfl, h1, h2, hm⟩
    | succ i => exact ⟨e', _, rfl, h3, h4, mapRel_set hm h1 h2⟩

theorem mapRel_erase : ∀ {es : List (V × V)} {l : List MapEntry} {i : Nat}, mapRel F μ es l → mapRel F μ (es.eraseIdx i) (l.eraseIdx i)
  | [], _, _, h => by simp only [mapRel] at h; subst h; simp [mapRel]
  | (_, _) :: _, _, i, h => by
    obtain ⟨e', l', rfl, h3, h4, hm⟩ := h
    cases i with
    | zero => exact hm
    | succ i => exact ⟨e', _, rfl, h3, h4, mapRel_erase hm⟩

end
end Go.Ev

namespace Go.Ev
open Go
section
variable {P : Program} {w : World} {F : Frz} {μ : Mu} {σ : Store}

theorem keyOk_frozen {kf : Option Nat} {k : V} (h : keyOk kf k = true) : k.frozen = true := by
  unfold keyOk at h
  split at h
  · rfl
  · rename_i n cs
    simp only [Bool.and_eq_true, decide_eq_true_eq] at h
    have : ∀ l : List V, l.all V.isInt = true → V.frozens l = true := fun l => by
      induction l with
      | nil => simp [V.frozens]
      | cons x r ih =>
        intro hl
        simp only [List.all_cons, Bool.and_eq_true] at hl
        cases x <;> simp only [V.isInt, Bool.false_eq_true, false_and] at hl
        simp [V.frozens, V.frozen, ih hl.2]
    simpa [V.frozen] using this cs h.2
  · cases h

/-- Equal keys are the same value. -/
theorem eqCells_same : ∀ {xs ys : List V} {us vs : List Value}, eqCells xs ys = some true → rels F μ xs us → rels F μ ys vs → us = vs ∧ ∀ u ∈ us, ∃ k n, u = .int k n
  | [], [], us, vs, _, hx, hy => by simp only [rels] at hx hy; subst hx hy; simp
  | [], _ :: _, _, _, h, _, _ => by simp [eqCells] at h
  | _ :: _, [], _, _, h, _, _ => by simp [eqCells] at h
  | x :: xs, y :: ys, us, vs, h, hx, hy => by
    simp only [eqCells] at h
    split at h
    · rename_i he
      obtain ⟨u, us', rfl, h1, h2⟩ := hx
      obtain ⟨v, vs', rfl, h3, h4⟩ := hy
      obtain ⟨e1, e2⟩ := eqCells_same h h2 h4
      unfold eqCell at he
      split at he
      · split at he
        · rename_i hk
          simp only [rel] at h1 h3
          simp only [Option.some.injEq, beq_iff_eq] at he
          subst hk he h1 h3 e1
          exact ⟨rfl, fun u hu => by
            rcases List.mem_cons.1 hu with rfl | hu
            · exact ⟨_, _, rfl⟩
            · exact e2 u hu⟩
        · cases he
      · cases he
    · cases h
    · cases h

theorem key_same {kf : Option Nat} {x y : V} {u v : Value} (he : eqKey kf x y = some true) (hx : rel F μ x u) (hy : rel F μ y v) : u = v ∧ Instr.sameBits 10000 u u = true := by
  unfold eqKey at he
  split at he
  · simp only [rel] at hx hy
    subst hx hy
    unfold eqCell at he
    simp only at he
    split at he
    · rename_i hk
      simp only [Option.some.injEq, beq_iff_eq] at he
      subst hk he
      exact ⟨rfl, by simp [Instr.sameBits]⟩
    · cases he
  · split at he
    · simp only [rel] at hx hy
      obtain ⟨us, rfl, h1⟩ := hx
      obtain ⟨vs, rfl, h2⟩ := hy
      obtain ⟨rfl, hall⟩ := eqCells_same he h1 h2
      refine ⟨rfl, ?_⟩
      have : ∀ d, Instr.sameBits (d + 1) (.agg us.toArray) (.agg us.toArray) = true := fun d => by
        simp only [Instr.sameBits, beq_self_eq_true, Bool.true_and]
        have : ∀ l : List Value, (∀ u ∈ l, ∃ k n, u = .int k n) → ((l.zip l).all fun (x, y) => Instr.sameBits d x y) = true := fun l => by
          induction l with
          | nil => simp
          | cons a r ih =>
            intro hl
            obtain ⟨k, n, rfl⟩ := hl a (by simp)
            simp only [List.zip_cons_cons, List.all_cons, ih (fun u hu => hl u (by simp [hu])), Bool.and_true]
            cases d <;> simp [Instr.sameBits]
        exact this us hall
      exact this 9999
    · cases he
  · cases he

theorem good_mapSet {t kt vt : TypeId} {kf : Option Nat} {m k v : V} {um uk uv : Value} {a : Ans} {l rd : List Key} (hI : Inv F μ σ w) (hu : P.underlying t = some (.map kt vt)) (hkf : keyForm P kt = some kf)
    (hm : rel F μ m um) (hk : rel F μ k uk) (hv : rel F μ v uv)
    (hr : (match m with
      | .map key => Act.get key fun
        | .map es => if (keyOk kf k && valOk v) = true then (match setK kf k v es with
          | some es => .ret (⟨.tuple [], [(key, .map es)]⟩ : Ans)
          | none => .fail) else .fail
        | _ => .fail
      | _ => Act.fail).run σ l = some (a, rd)) : Good P (do Instr.mapUpdate t um uk uv; pure .skip) F μ σ w a := by
  cases m <;> try (exact (fail_run hr).elim)
  rename_i key
  obtain ⟨o, ho, hr⟩ := get_run hr
  cases o <;> simp only at hr <;> try (exact (fail_run hr).elim)
  rename_i es
  split at hr
  · rename_i hok
    simp only [Bool.and_eq_true] at hok
    obtain ⟨hok, _⟩ := hok
    split at hr
    · rename_i es' hset
      have := ret_run hr; simp only at this; subst this
      simp only [rel] at hm
      obtain ⟨b, hb, rfl⟩ := hm
      obtain ⟨ents, clock, hw, hmr⟩ := hI.map ho hb
      have hk0 : rel F noMu k uk := rel_frozen _ _ (keyOk_frozen hok) hk
      obtain ⟨p, hp, hcase⟩ := setK_pos hset
      have hfind := run_findKey' (P := P) (w := w) hkf hok hk0 hmr hp
      have hck := run_checkKey' (P := P) (w := w) false hkf hok hk
      have hlt : b < w.heap.size := by
        rcases Nat.lt_or_ge b w.heap.size with h' | h'
        · exact h'
        · rw [Array.getElem?_eq_none h'] at hw; cases hw
      have hget : (getObj b).run P w = .ok (.map ents clock) w := by simp [getObj, Sem.run, hw]
      have hset' : ∀ o, (setObj b o).run P w = .ok () { w with heap := w.heap.setIfInBounds b o } := fun o => by simp [setObj, Sem.run, hw]
      have post : ∀ (ents' : Array MapEntry) (clock' : Nat), mapRel F μ es' ents'.toList → Post F μ w F μ (σ.put key (.map es')) { w with heap := w.heap.setIfInBounds b (.map ents' clock') } := fun ents' clock' hmr' => by
        refine Post.setBlk hI hb (by simp) (fun b' hb' => by simp [Array.getElem?_setIfInBounds_ne (Ne.symm hb')]) rfl rfl ?_
        exact ⟨ents', clock', by simp [hlt], hmr'⟩
      rcases hcase with ⟨rfl, rfl⟩ | ⟨i, kv, rfl, hi, heq, rfl⟩
      · refine ⟨undef, _, F, μ, .inr ⟨?_, rfl⟩, post (ents.push { key := uk, val := uv, born := clock }) (clock + 1) (by rw [Array.toList_push]; exact mapRel_append hmr hk0 hv), by simp [rel, rels, undef]⟩
        simp only [Instr.mapUpdate, Sem.run_bind, run_underlying hu, Result.andThen_ok, hget, hck, hfind, Option.bind_none, hset', Sem.run_pure]
      · obtain ⟨e, he, hke, hve⟩ := mapRel_get hmr hi
        obtain ⟨hsame, hbits⟩ := key_same heq hk0 hke
        have hil : i < ents.size := by
          have := List.getElem?_eq_some_iff.1 he
          simpa using this.1
        refine ⟨undef, _, F, μ, .inr ⟨?_, rfl⟩, post (ents.modify i fun e => { e with key := uk, val := uv }) clock ?_, by simp [rel, rels, undef]⟩
        · have he' : ents[i]? = some e := by simpa using he
          simp only [Instr.mapUpdate, Sem.run_bind, run_underlying hu, Result.andThen_ok, hget, hck, hfind, Option.bind_some, he, Option.map_some, he', Option.getD_some]
          have : (Instr.keyThatStays e.key uk).run P w = .ok uk w := by
            rw [← hsame]; simp [Instr.keyThatStays, hbits]
          simp only [this, Result.andThen_ok, hset', Sem.run_pure]
        · have : (ents.modify i fun e => { e with key := uk, val := uv }).toList = ents.toList.set i { e with key := uk, val := uv } := by
            apply List.ext_getElem?
            intro j
            simp only [Array.getElem?_toList, Array.getElem?_modify, List.getElem?_set]
            by_cases hij : i = j
            · subst hij
              simp only [if_true]
              have he' : ents[i]? = some e := by simpa using he
              rw [Array.getElem?_eq_getElem hil] at he'
              cases he'
              simp [hil]
            · simp [hij]
          rw [this]
          exact mapRel_set hmr hk0 hv
    · exact (fail_run hr).elim
  · exact (fail_run hr).elim

theorem good_delete {t t' ty kt vt : TypeId} {kf : Option Nat} {m k : V} {um uk : Value} {a : Ans} {l rd : List Key} (hI : Inv F μ σ w) (hu : P.underlying t = some (.map kt vt)) (hkf : keyForm P kt = some kf)
    (hr : (if keyOk kf k = true then (match m with
      | .nilmap => Act.just (.tuple [])
      | .map key => .get key fun
        | .map es => match delK kf k es with
          | some es => .ret ⟨.tuple [], [(key, .map es)]⟩
          | none => .fail
        | _ => .fail
      | _ => .fail) else .fail : Act Ans).run σ l = some (a, rd)) (hm : rel F μ m um) (hk : rel F μ k uk) : Good P (do pure (.value (← Builtin.delete_ #[t, t'] ty #[um, uk]))) F μ σ w a := by
  split at hr
  · rename_i hok
    have hk0 : rel F noMu k uk := rel_frozen _ _ (keyOk_frozen hok) hk
    cases m <;> try (exact (fail_run hr).elim)
    · rename_i key
      obtain ⟨o, ho, hr⟩ := get_run hr
      cases o <;> simp only at hr <;> try (exact (fail_run hr).elim)
      rename_i es
      split at hr
      · rename_i es' hdel
        have := ret_run hr; simp only at this; subst this
        simp only [rel] at hm
        obtain ⟨b, hb, rfl⟩ := hm
        obtain ⟨ents, clock, hw, hmr⟩ := hI.map ho hb
        obtain ⟨p, hp, hcase⟩ := delK_pos hdel
        have hfind := run_findKey' (P := P) (w := w) hkf hok hk0 hmr hp
        have hck := run_checkKey' (P := P) (w := w) ents.isEmpty hkf hok hk
        have hlt : b < w.heap.size := by
          rcases Nat.lt_or_ge b w.heap.size with h' | h'
          · exact h'
          · rw [Array.getElem?_eq_none h'] at hw; cases hw
        have hget : (getObj b).run P w = .ok (.map ents clock) w := by simp [getObj, Sem.run, hw]
        have hset' : ∀ o, (setObj b o).run P w = .ok () { w with heap := w.heap.setIfInBounds b o } := fun o => by simp [setObj, Sem.run, hw]
        have post : ∀ (ents' : Array MapEntry) (clock' : Nat), mapRel F μ es' ents'.toList → Post F μ w F μ (σ.put key (.map es')) { w with heap := w.heap.setIfInBounds b (.map ents' clock') } := fun ents' clock' hmr' => by
          refine Post.setBlk hI hb (by simp) (fun b' hb' => by simp [Array.getElem?_setIfInBounds_ne (Ne.symm hb')]) rfl rfl ?_
          exact ⟨ents', clock', by simp [hlt], hmr'⟩
        rcases hcase with ⟨rfl, rfl⟩ | ⟨i, rfl, hi, rfl⟩
        · refine ⟨.tuple #[], _, F, μ, .inl ?_, post ents clock hmr, by simp [rel, rels]⟩
          simp only [Builtin.delete_, List.getElem?_toArray, List.getElem?_cons_zero, List.getElem?_cons_succ, Sem.run_bind, run_underlying hu, Result.andThen_ok, hget, hck, hfind, Option.bind_none, hset', Sem.run_pure]
        · have hl := mapRel_length hmr
          have hi' : i < ents.toList.length := by omega
          refine ⟨.tuple #[], _, F, μ, .inl ?_, post (ents.eraseIdxIfInBounds i) clock ?_, by simp [rel, rels]⟩
          · simp only [Builtin.delete_, List.getElem?_toArray, List.getElem?_cons_zero, List.getElem?_cons_succ, Sem.run_bind, run_underlying hu, Result.andThen_ok, hget, hck, hfind, Option.bind_some, List.getElem?_eq_getElem hi', Option.map_some, hset', Sem.run_pure]
          · have : (ents.eraseIdxIfInBounds i).toList = ents.toList.eraseIdx i := by
              simp only [Array.eraseIdxIfInBounds]
              rw [dif_pos (by simpa using hi')]
              simp
            rw [this]
            exact mapRel_erase hmr
      · exact (fail_run hr).elim
    · have := just_run hr; subst this
      simp only [rel] at hm
      subst hm
      refine Good.same hI (v := .tuple #[]) ?_ (by simp [rel, rels])
      simp only [Builtin.delete_, List.getElem?_toArray, List.getElem?_cons_zero, List.getElem?_cons_succ, Sem.run_bind, run_underlying hu, Result.andThen_ok, run_checkKey' (P := P) (w := w) true hkf hok hk, Sem.run_pure]
  · exact (fail_run hr).elim

/-! ### structs and slices built -/

theorem foldl_set : ∀ (l : List Value) (k off : Nat) (cells : Array Value), off + k + l.length ≤ cells.size →
    ((l.zipIdx k).foldl (fun cs (c, j) => cs.setIfInBounds (off + j) c) cells).toList = cells.toList.take (off + k) ++ l ++ cells.toList.drop (off + k + l.length)
  | [], k, off, cells, h => by simp
  | x :: r, k, off, cells, h => by
    simp only [List.zipIdx_cons, List.foldl_cons]
    rw [foldl_set r (k + 1) off _ (by simp at h ⊢; omega)]
    simp only [Array.toList_setIfInBounds, List.length_cons]
    simp only [List.length_cons] at h
    have e := list_seg_step cells.toList (off + k) x r (by simp; omega)
    simpa [Nat.add_assoc] using e

theorem fill_step {size off : Nat} {x : V} {v : Value} {cs : List V} {cells : Array Value} (hc : rels F μ cs cells.toList) (hx : rel F μ x v) (hl : x.cellsOf.length = size) (hb : off + size ≤ cs.length) (hcell : x.cellsOf.all V.isCell = true) :
    v.cells.size = size ∧ off + v.cells.size ≤ cells.size ∧ rels F μ (splice cs off x.cellsOf) (v.cells.zipIdx.foldl (fun cs (c, j) => cs.setIfInBounds (off + j) c) cells).toList := by
  have hn : x ≠ .undef := by rintro rfl; simp [V.cellsOf, V.isCell] at hcell
  have h1 := rel_cells hx hn
  have h2 := rels_length h1
  have h3 := rels_length hc
  simp only [Array.length_toList] at h2 h3
  refine ⟨by omega, by omega, ?_⟩
  rw [← Array.foldl_toList, Array.toList_zipIdx, foldl_set _ 0 off cells (by simp; omega)]
  have := rels_splice (off := off) hc h1
  simpa using this

def partsRel (F : Frz) (μ : Mu) (place : Nat → Option (Nat × Nat)) : List (Nat × Nat × V) → List (Nat × Value) → Prop
  | [], ps => ps = []
  | (off, size, x) :: r, ps => ∃ i v ps', ps = (i, v) :: ps' ∧ place i = some (off, size) ∧ rel F μ x v ∧ partsRel F μ place r ps'

theorem run_fill {place : Nat → Option (Nat × Nat)} : ∀ {vp : List (Nat × Nat × V)} {ps : List (Nat × Value)} {cs cs' : List V} {cells : Array Value}, rels F μ cs cells.toList → partsRel F μ place vp ps → fillV cs vp = some cs' →
    ∃ cells', Instr.fill place cells ps = some cells' ∧ rels F μ cs' cells'.toList
  | [], ps, cs, cs', cells, hc, hp, h => by
    simp only [partsRel] at hp; subst hp
    simp only [fillV, Option.some.injEq] at h; subst h
    exact ⟨cells, rfl, hc⟩
  | (off, size, x) :: r, ps, cs, cs', cells, hc, hp, h => by
    obtain ⟨i, v, ps', rfl, hpl, hx, hp'⟩ := hp
    simp only [fillV] at h
    split at h
    · rename_i hcond
      obtain ⟨h1, h2, h3⟩ := hcond
      obtain ⟨g1, g2, g3⟩ := fill_step hc hx h1 h2 h3
      obtain ⟨cells', hf, hr⟩ := run_fill g3 hp' h
      refine ⟨cells', ?_, hr⟩
      unfold Instr.fill
      simp only [hpl]
      rw [if_neg (by simp; omega)]
      exact hf
    · cases h

theorem mapM_sizes : ∀ (fs : List Field), fs.all (fun f => (sizeT P f.type).isSome) = true → (fs.mapM (fun f => do pure (f.offset, ← sizeOf f.type)) : Sem (List (Nat × Nat))).run P w = .ok (fs.map fun f => (f.offset, (sizeT P f.type).getD 0)) w
  | [], _ => by simp
  | f :: r, h => by
    simp only [List.all_cons, Bool.and_eq_true] at h
    obtain ⟨n, hn⟩ := Option.isSome_iff_exists.1 h.1
    simp only [List.mapM_cons, Sem.run_bind, run_sizeOf' hn, Result.andThen_ok, Sem.run_pure, mapM_sizes r h.2, List.map_cons, hn, Option.getD_some]

theorem run_build_struct {t : TypeId} {fs : Array Field} {z cs : List V} {vp : List (Nat × Nat × V)} {parts : Array (Nat × Value)} (hu : P.underlying t = some (.struct fs)) (hz : zeroT P t = some z) (hall : fs.toList.all (fun f => (sizeT P f.type).isSome) = true)
    (hp : partsRel F μ (fun i => (fs.map fun f => (f.offset, (sizeT P f.type).getD 0))[i]?) vp parts.toList) (h : fillV z vp = some cs) :
    ∃ v, (Instr.build t parts).run P w = .ok v w ∧ rel F μ (.agg cs) v := by
  obtain ⟨i, v, hi, hv, hc⟩ := zeroT_spec hz
  have hm := mapM_sizes (w := w) fs.toList hall
  have hm' : (fs.mapM (fun f => do pure (f.offset, ← sizeOf f.type)) : Sem (Array (Nat × Nat))).run P w = .ok (fs.map fun f => (f.offset, (sizeT P f.type).getD 0)) w := by
    rw [Array.mapM_eq_mapM_toList]
    simp only [Sem.run_map, hm, Result.andThen_ok]
    congr 1
    apply Array.ext'; simp
  obtain ⟨cells', hf, hr⟩ := run_fill (cells := v.cells) (hc F μ) hp h
  refine ⟨.agg cells', ?_, by simp only [rel]; exact ⟨cells'.toList, by simp, hr⟩⟩
  simp only [Instr.build, Sem.run_bind, zeroValue, typeInfo, run_program, Result.andThen_ok, hi, hv, Sem.run_pure, run_underlying hu, hm', hf]

theorem run_build_array {t e : TypeId} {len n : Nat} {z cs : List V} {vp : List (Nat × Nat × V)} {parts : Array (Nat × Value)} (hu : P.underlying t = some (.array len e)) (hz : zeroT P t = some z) (hn : sizeT P e = some n)
    (hp : partsRel F μ (fun i => some (i * n, n)) vp parts.toList) (h : fillV z vp = some cs) :
    ∃ v, (Instr.build t parts).run P w = .ok v w ∧ rel F μ (.agg cs) v := by
  obtain ⟨i, v, hi, hv, hc⟩ := zeroT_spec hz
  obtain ⟨cells', hf, hr⟩ := run_fill (cells := v.cells) (hc F μ) hp h
  refine ⟨.agg cells', ?_, by simp only [rel]; exact ⟨cells'.toList, by simp, hr⟩⟩
  simp only [Instr.build, Sem.run_bind, zeroValue, typeInfo, run_program, Result.andThen_ok, hi, hv, Sem.run_pure, run_underlying hu, run_sizeOf' hn, hf]

end
end Go.Ev

namespace Go.Ev
open Go
section
variable {P : Program} {w : World} {F : Frz} {μ : Mu} {σ : Store}

theorem settle_spec {esz : Nat} {agg : Bool} {v x : V} (h : v.settle esz agg = some x) : x.cellsOf.length = esz ∧ x.cellsOf.all V.isCell = true ∧ (∀ (F : Frz) (μ : Mu) (u : Value), rel F μ v u → rel F noMu x u) ∧ (agg = false → x.cellsOf = [x]) := by
  unfold V.settle at h
  split at h
  · rename_i cs
    simp only at h
    split at h
    · rename_i hc
      cases h
      refine ⟨hc.1, ?_, fun F μ u hu => ?_, by simp⟩
      · have := hc.2
        simp only [V.cellsOf, List.all_eq_true, Bool.and_eq_true] at this ⊢
        exact fun y hy => (this y hy).2
      · simp only [rel] at hu ⊢
        obtain ⟨us, rfl, h1⟩ := hu
        refine ⟨us, rfl, ?_⟩
        have h2 := hc.2
        rw [rels_iff] at h1 ⊢
        refine ⟨by simpa using h1.1, fun i a b ha hb => ?_⟩
        simp only [List.getElem?_map, Option.map_eq_some_iff] at ha
        obtain ⟨a', ha', rfl⟩ := ha
        rw [List.all_eq_true] at h2
        have h3 := h2 a'.thin (List.mem_map_of_mem (List.mem_of_getElem? ha'))
        simp only [Bool.and_eq_true] at h3
        exact rel_frozen _ _ h3.1 (rel_thin (h1.2 i a' b ha' hb))
    · cases h
  · simp only at h
    split at h
    · rename_i hc
      cases h
      have h2 := hc.2
      simp only [Bool.and_eq_true] at h2
      have hcell : v.thin.cellsOf = [v.thin] := by cases hh : v.thin <;> first | rfl | (rw [hh] at h2; simp [V.isCell] at h2)
      refine ⟨by rw [hcell]; exact hc.1.symm, by rw [hcell]; simp [h2.2], fun F μ u hu => rel_frozen _ _ h2.1 (rel_thin hu), fun _ => hcell⟩
    · cases h
  · cases h

theorem settles_spec {esz : Nat} {agg : Bool} : ∀ {vs xs : List V}, settles esz agg vs = some xs → (∀ x ∈ xs, x.cellsOf.length = esz ∧ x.cellsOf.all V.isCell = true) ∧ ∀ (F : Frz) (μ : Mu) (us : List Value), rels F μ vs us → rels F noMu xs us
  | [], xs, h => by
    simp only [settles, Option.some.injEq] at h; subst h
    exact ⟨by simp, fun F μ us h => by simpa [rels] using h⟩
  | v :: vs, xs, h => by
    simp only [settles] at h
    split at h
    · rename_i x r h1 h2
      cases h
      obtain ⟨a1, a2, a3, _⟩ := settle_spec h1
      obtain ⟨b1, b2⟩ := settles_spec h2
      refine ⟨fun y hy => ?_, fun F μ us hu => ?_⟩
      · rcases List.mem_cons.1 hy with rfl | hy
        · exact ⟨a1, a2⟩
        · exact b1 y hy
      · obtain ⟨u, us', rfl, g1, g2⟩ := hu
        exact ⟨u, us', rfl, a3 F μ u g1, b2 F μ us' g2⟩
    · cases h

def rowParts (size : Nat) : Nat → List V → List (Nat × Nat × V)
  | _, [] => []
  | k, x :: r => (k * size, size, x) :: rowParts size (k + 1) r

theorem fillV_row {size : Nat} : ∀ (xs : List V) (k : Nat) (cs : List V), cs.length = (k + xs.length) * size → (∀ x ∈ xs, x.cellsOf.length = size ∧ x.cellsOf.all V.isCell = true) →
    fillV cs (rowParts size k xs) = some (cs.take (k * size) ++ xs.flatMap V.cellsOf)
  | [], k, cs, hl, _ => by
    simp only [rowParts, fillV, List.flatMap_nil, List.append_nil, Option.some.injEq]
    rw [List.take_of_length_le]; simp at hl; omega
  | x :: r, k, cs, hl, h => by
    obtain ⟨h1, h2⟩ := h x (by simp)
    have e1 : (k + (x :: r).length) * size = (k + 1) * size + r.length * size := by simp only [List.length_cons]; rw [← Nat.add_mul]; congr 1; omega
    have e2 : (k + 1) * size = k * size + size := by rw [Nat.add_mul, Nat.one_mul]
    simp only [rowParts, fillV]
    rw [if_pos ⟨h1, by omega, h2⟩]
    have hsl := splice_length (cs := cs) (vs := x.cellsOf) (off := k * size) (by omega)
    rw [fillV_row r (k + 1) _ (by rw [hsl, hl]; simp only [List.length_cons]; congr 1; omega) (fun y hy => h y (by simp [hy]))]
    simp only [List.flatMap_cons, Option.some.injEq]
    rw [← List.append_assoc]
    congr 1
    unfold splice
    rw [List.take_append_of_le_length (by simp; omega)]
    rw [List.take_of_length_le (by simp; omega)]

theorem good_buildSlice {t e : TypeId} {len n : Nat} {xs : List V} {parts : Array (Nat × Value)} (hI : Inv F μ σ w) (hu : P.underlying t = some (.slice e)) (hn : sizeT P e = some n) (h0 : n ≠ 0) (hz : (zeroSize P e).isSome = true) (hb : len * n ≤ 16777216)
    (hl : xs.length = len) (hx : ∀ x ∈ xs, x.cellsOf.length = n ∧ x.cellsOf.all V.isCell = true) (hp : partsRel F noMu (fun i => some (i * n, n)) (rowParts n 0 xs) parts.toList) :
    Good P (do pure (.value (← Instr.buildSlice t len parts))) F μ σ w ⟨.slc n xs .tight, []⟩ := by
  obtain ⟨m, hm⟩ := Option.isSome_iff_exists.1 hz
  obtain ⟨i, z, hi, hiz, _⟩ := zeroSize_spec hm
  have h24 : ¬ (len * n > 2 ^ 24) := by omega
  obtain ⟨row, hrl, hrun⟩ : ∃ row : Array Value, row.size = len * n ∧ (Instr.buildSlice t len parts).run P w = (match Instr.fill (fun i => some (i * n, n)) row parts.toList with
      | some cells => (do pure (.slice (some (← newRow e cells)) len len) : Sem Value)
      | none => stuck "buildSlice: a part of the wrong size").run P w := by
    by_cases h : len * n = 0
    · refine ⟨(Array.range (len * n)).map fun x => (#[] : Array Value)[x % (#[] : Array Value).size]!, by simp, ?_⟩
      simp only [Instr.buildSlice, Sem.run_bind, run_underlying hu, Result.andThen_ok, run_sizeOf' hn, h24, if_false, if_pos h, Sem.run_pure]
      generalize Instr.fill _ _ parts.toList = q
      cases q <;> rfl
    · refine ⟨(Array.range (len * n)).map fun x => z.cells[x % z.cells.size]!, by simp, ?_⟩
      simp only [Instr.buildSlice, Sem.run_bind, run_underlying hu, Result.andThen_ok, run_sizeOf' hn, h24, if_false, if_neg h, Sem.run_pure, zeroValue, typeInfo, run_program, hi, hiz]
      generalize Instr.fill _ _ parts.toList = q
      cases q <;> rfl
  have hzs : rels F noMu (List.replicate (len * n) V.undef) row.toList := by
    rw [rels_iff]
    refine ⟨by simp [hrl], fun i v u hv _ => ?_⟩
    rw [List.getElem?_replicate] at hv
    split at hv
    · cases hv; simp [rel]
    · cases hv
  have hfv := fillV_row (size := n) xs 0 (List.replicate (len * n) V.undef) (by simp [hl]) hx
  simp only [Nat.zero_mul, List.take_zero, List.nil_append] at hfv
  obtain ⟨cells', hf, hr⟩ := run_fill hzs hp hfv
  have hcell : ∀ u ∈ cells'.toList, u.oneCell' = true := oneCell_of_rels hr (by
    rw [List.all_eq_true]
    intro y hy
    obtain ⟨x, hx', hyx⟩ := List.mem_flatMap.1 hy
    have := (hx x hx').2
    rw [List.all_eq_true] at this
    exact this y hyx)
  have hpost := Post.newRow (w' := { w with heap := w.heap.push (.cells cells' e) }) hI cells'.toList [] e (0, 0) hcell (by simp) rfl rfl
  refine ⟨.slice (some ⟨w.heap.size, 0, none⟩) len len, _, _, μ, .inl ?_, hpost, ?_⟩
  · rw [Sem.run_bind, hrun, hf]
    simp only [newRow, Sem.run_bind, run_newObj, Result.andThen_ok, Sem.run_pure]
  · simp only [rel]
    refine ⟨some ⟨w.heap.size, 0, none⟩, len, by rw [hl], ⟨.inr rfl, ?_⟩, by simp [ownRel, hl]⟩
    rw [frzE_iff]
    exact ⟨fun x hx' => (hx x hx').1, frz_put hpost.2.1.le hr⟩

theorem flatten_replicate {α : Type} (zs : List α) (m : Nat) (hm : zs.length = m) (d : α) : ∀ l : Nat, (List.range (l * m)).map (fun i => zs.getD (i % m) d) = (List.replicate l zs).flatten
  | 0 => by simp
  | l + 1 => by
    rw [Nat.add_mul, Nat.one_mul, List.range_add, List.map_append, flatten_replicate zs m hm d l, List.replicate_succ', List.flatten_append]
    congr 1
    simp only [List.map_map]
    apply List.ext_getElem?
    intro i
    by_cases hi : i < m
    · simp [hi, Nat.mod_eq_of_lt hi, hm]
    · simp [show ¬ i < m from hi, List.getElem?_eq_none (show zs.length ≤ i by omega)]

theorem good_makeSlice {t e : TypeId} {n by_ : Nat} {agg : Bool} {zc : List V} {z : V} {kl kc : IntKind} {l : Int} (hI : Inv F μ σ w) (hu : P.underlying t = some (.slice e)) (hn : sizeT P e = some n) (h0 : n ≠ 0) (hb : bytesT P e = some by_)
    (hz : zeroT P e = some zc) (hzl : zc.length = n) (h1 : agg = false → n = 1) (hs : (V.mk agg zc).settle n agg = some z) (hl0 : 0 ≤ l) (hlb : l * by_ ≤ 1099511627776) (hll : l ≤ 1099511627776) :
    Good P (do pure (.value (← Instr.makeSlice t (.int kl l) (.int kc l)))) F μ σ w ⟨.slc n (List.replicate l.toNat z) .tight, []⟩ := by
  obtain ⟨i, v, hi, hiv, hrels⟩ := zeroT_spec hz
  obtain ⟨i', hi', hby⟩ := bytesT_info hb
  rw [hi] at hi'; cases hi'
  obtain ⟨s1, s2, s3, s4⟩ := settle_spec hs
  have hzrel : rels F noMu z.cellsOf v.cells.toList := by
    have hc := hrels F noMu
    have hvl := rels_length hc
    have : rel F noMu (V.mk agg zc) (if agg then .agg v.cells.toList.toArray else v.cells.toList.headD Go.undef) := rel_mk hc (by intro h; rw [h] at hzl; simp at hzl; omega)
    have h2 := s3 F noMu _ this
    have h3 : z ≠ .undef := by rintro rfl; simp [V.cellsOf, V.isCell] at s2
    cases agg with
    | true => simpa [Value.cells] using rel_cells h2 h3
    | false =>
      have := h1 rfl
      subst this
      obtain ⟨a, ha⟩ := List.length_eq_one_iff.1 (hvl.symm.trans hzl)
      rw [ha] at h2 ⊢
      rw [s4 rfl]
      exact ⟨a, [], rfl, by simpa using h2, rfl⟩
  have hsz : v.cells.size = n := by have := rels_length hzrel; rw [s1] at this; simpa using this.symm
  have hw64 : IntKind.i64.wrap l = l := IntWalk.i64_in l (by omega)
  have hrow : (Array.range (l.toNat * n)).map (v.cells[· % v.cells.size]!) = ((List.replicate l.toNat v.cells.toList).flatten).toArray := by
    rw [← flatten_replicate v.cells.toList n (by simpa using hsz) default]
    apply Array.ext'
    simp only [Array.toList_map, Array.toList_range]
    apply List.map_congr_left
    intro a _
    rw [hsz]
    simp [getElem!_def, List.getD_eq_getElem?_getD]
    cases v.cells[a % n]? <;> rfl
  have hrel : rels F noMu ((List.replicate l.toNat z).flatMap V.cellsOf) ((List.replicate l.toNat v.cells.toList).flatten) := by
    generalize l.toNat = q
    induction q with
    | zero => simp [rels]
    | succ q ih => simp only [List.replicate_succ, List.flatMap_cons, List.flatten_cons]; exact rels_append hzrel ih
  have hcell : ∀ u ∈ (List.replicate l.toNat v.cells.toList).flatten, u.oneCell' = true := oneCell_of_rels hrel (by
    rw [List.all_eq_true]
    intro y hy
    obtain ⟨x, hx', hyx⟩ := List.mem_flatMap.1 hy
    rw [List.mem_replicate] at hx'
    rw [hx'.2] at hyx
    rw [List.all_eq_true] at s2
    exact s2 y hyx)
  have hpost := Post.newRow (w' := { w with heap := w.heap.push (.cells ((List.replicate l.toNat v.cells.toList).flatten).toArray e) }) hI _ [] e (0, 0) hcell (by simp) rfl rfl
  refine ⟨.slice (some ⟨w.heap.size, 0, none⟩) l.toNat l.toNat, _, _, μ, .inl ?_, hpost, ?_⟩
  · have t1 : ((i.bytes : Int) * l > 2 ^ 48) = False := by
      rw [hby, Int.mul_comm]
      have : (2 : Int) ^ 48 = 281474976710656 := by decide
      simp; omega
    have t0 : (l < 0) = False := by simp; omega
    simp only [Instr.makeSlice, Sem.run_bind, run_underlying hu, Result.andThen_ok, asInt, asIntOf, Sem.run_pure, typeInfo, run_program, hi, hw64, t0, t1, decide_false, Bool.or_self, Bool.false_or, Int.lt_irrefl, Bool.or_false, gt_iff_lt, Bool.false_eq_true, if_false, run_askRoom, run_sizeOf' hn]
    by_cases hl00 : l.toNat * n = 0
    · have : l.toNat = 0 := by
        rcases Nat.mul_eq_zero.1 hl00 with h | h
        · exact h
        · exact absurd h h0
      have hr0 : Array.range 0 = #[] := by apply Array.ext'; simp
      simp [this, newRow, hr0]
    · simp only [hl00, if_false, Sem.run_bind, zeroValue, typeInfo, run_program, Result.andThen_ok, hi, hiv, Sem.run_pure, hrow, newRow, run_newObj]
  · simp only [rel]
    refine ⟨some ⟨w.heap.size, 0, none⟩, l.toNat, by simp, ⟨.inr rfl, ?_⟩, by simp [ownRel]⟩
    rw [frzE_iff]
    exact ⟨fun x hx' => by rw [List.mem_replicate] at hx'; rw [hx'.2]; exact s1, frz_put hpost.2.1.le hrel⟩

/-- So many cells of zero that may be written. -/
theorem good_makeRow {t e : TypeId} {k : IntKind} {zv : Int} {kl kc : IntKind} {l c : Int} {dst : Nat} (hI : Inv F μ σ w) (hu : P.underlying t = some (.slice e)) (hn : sizeT P e = some 1) (hb : bytesT P e = some 1)
    (hz : zeroT P e = some [.int k zv]) (hl0 : 0 ≤ l) (hlc : l ≤ c) (hll : c ≤ 1099511627776) (hk : σ.get (.loc dst 0) = none) :
    Good P (do pure (.value (← Instr.makeSlice t (.int kl l) (.int kc c)))) F μ σ w ⟨.view (.loc dst 0) 1 0 l.toNat c.toNat, [(.loc dst 0, .cells (List.replicate c.toNat (.int k zv)))]⟩ := by
  obtain ⟨i, v, hi, hiv, hrels⟩ := zeroT_spec hz
  obtain ⟨i', hi', hby⟩ := bytesT_info hb
  rw [hi] at hi'; cases hi'
  have hv : v.cells = #[.int k zv] := by
    have := hrels F noMu
    simp only [rels, rel] at this
    obtain ⟨u, us', h1, rfl, rfl⟩ := this
    apply Array.ext'
    simpa using h1
  have hw64 : IntKind.i64.wrap l = l := IntWalk.i64_in l (by omega)
  have hwc : IntKind.i64.wrap c = c := IntWalk.i64_in c (by omega)
  have hrow : (Array.range (c.toNat * 1)).map (v.cells[· % v.cells.size]!) = (List.replicate c.toNat (Value.int k zv)).toArray := by
    rw [hv]
    apply Array.ext'
    simp only [Array.toList_map, Array.toList_range]
    apply List.ext_getElem
    · simp
    · intro i h1 h2
      simp [Nat.mod_one]
  have hnew : ∀ off, F ⟨w.heap.size, off, none⟩ = none := fun off => by
    cases hc : F ⟨w.heap.size, off, none⟩ with
    | none => rfl
    | some u => have := hI.frz_lt hc; simp at this
  have hrel : ∀ μ' : Mu, rels F μ' (List.replicate c.toNat (V.int k zv)) (List.replicate c.toNat (Value.int k zv)) := fun μ' => by
    generalize c.toNat = q
    induction q with
    | zero => simp [rels]
    | succ q ih => simp only [List.replicate_succ]; exact ⟨_, _, rfl, by simp only [rel], ih⟩
  have hpost := Post.newBlk (w' := { w with heap := w.heap.push (.cells (List.replicate c.toNat (Value.int k zv)).toArray e) }) hI hk (o := .cells (List.replicate c.toNat (.int k zv))) (g := .cells (List.replicate c.toNat (Value.int k zv)).toArray e) rfl rfl rfl
    (fun μ' _ => ⟨_, e, push_get rfl, hrel μ', hnew⟩)
  refine ⟨.slice (some ⟨w.heap.size, 0, none⟩) l.toNat c.toNat, _, _, _, .inl ?_, hpost, ?_⟩
  · have t1 : ((i.bytes : Int) * c > 2 ^ 48) = False := by
      rw [hby, Int.mul_comm]
      have : (2 : Int) ^ 48 = 281474976710656 := by decide
      simp; omega
    have t0 : (l < 0) = False := by simp; omega
    have t2 : (c < 0) = False := by simp; omega
    have t3 : (c < l) = False := by simp; omega
    simp only [Instr.makeSlice, Sem.run_bind, run_underlying hu, Result.andThen_ok, asInt, asIntOf, Sem.run_pure, typeInfo, run_program, hi, hw64, hwc, t0, t2, t3, t1, decide_false, Bool.or_self, Bool.false_or, Int.lt_irrefl, Bool.or_false, gt_iff_lt, Bool.false_eq_true, if_false, run_askRoom, run_sizeOf' hn]
    by_cases hl00 : c.toNat * 1 = 0
    · have : c.toNat = 0 := by omega
      have hr0 : Array.range 0 = #[] := by apply Array.ext'; simp
      simp [this, newRow, hr0]
    · simp only [hl00, if_false, Sem.run_bind, zeroValue, typeInfo, run_program, Result.andThen_ok, hi, hiv, Sem.run_pure, hrow, newRow, run_newObj]
  · simp only [rel]
    exact ⟨w.heap.size, Mu.set_same .., rfl⟩

end
end Go.Ev

namespace Go.Ev
open Go
section
variable {P : Program} {w : World} {F : Frz} {μ : Mu} {σ : Store}

theorem good_bytesOf {s d e : TypeId} {b : ByteArray} (hI : Inv F μ σ w) (hs : P.underlying s = some .string) (hd : P.underlying d = some (.slice e)) (he : P.underlying e = some (.int .u8)) (hb : b.size ≤ 1099511627776) :
    Good P (do pure (.value (← convert s d (.string b)))) F μ σ w ⟨.slc 1 (bytesV b) .none, []⟩ := by
  obtain ⟨c, hc1, hc2⟩ := run_choose_cap (P := P) (w := w) (need := b.size) (old := 0) (e := e) (by omega)
  have hrel : rels F noMu ((bytesV b).flatMap V.cellsOf) (b.toList.map fun x => .int .u8 x.toNat) ∧ ∀ x ∈ bytesV b, x.cellsOf.length = 1 := by
    unfold bytesV
    generalize b.toList = l
    induction l with
    | nil => simp [rels]
    | cons x r ih =>
      simp only [List.map_cons, List.flatMap_cons, V.cellsOf, List.singleton_append, List.mem_cons, forall_eq_or_imp]
      exact ⟨⟨_, _, rfl, by simp [rel], ih.1⟩, by simp, ih.2⟩
  have hlen : (bytesV b).length = b.size := by simp [bytesV, ByteArray.toList_eq]
  let cells : Array Value := b.data.map (fun x => Value.int .u8 x.toNat) ++ Array.replicate (c - b.size) (Value.int .u8 0)
  have hcl : cells = (b.toList.map (fun x => Value.int .u8 x.toNat) ++ List.replicate (c - b.size) (Value.int .u8 0)).toArray := by
    apply Array.ext'; simp [cells, ByteArray.toList_eq]
  have hpost := Post.newRow (w' := { w with drawn := w.drawn + 1, heap := w.heap.push (.cells cells e (cells.size, cells.size + 1)) }) hI (b.toList.map fun x => .int .u8 x.toNat) (List.replicate (c - b.size) (.int .u8 0)) e (cells.size, cells.size + 1)
    (fun u hu => by simp only [List.mem_map] at hu; obtain ⟨x, _, rfl⟩ := hu; rfl) (by rw [hcl]) rfl rfl
  refine ⟨.slice (some ⟨w.heap.size, 0, none⟩) b.size c, _, _, μ, .inl ?_, hpost, ?_⟩
  · have hm : (markStringish ⟨w.heap.size, 0, none⟩).run P { w with drawn := w.drawn + 1, heap := w.heap.push (.cells cells e) } = .ok () { w with drawn := w.drawn + 1, heap := w.heap.push (.cells cells e (cells.size, cells.size + 1)) } := by
      unfold markStringish
      simp only [Sem.run_bind, run_shape, Result.andThen_ok, World.shape?, Array.getElem?_push_size, run_freeze, World.freeze]
      simp only [Nat.one_ne_zero, if_false, beq_self_eq_true, if_true]
      congr 1
      congr 1
      apply Array.ext_getElem?
      intro j
      simp only [Array.getElem?_modify, Array.getElem?_push]
      by_cases hj : w.heap.size = j
      · subst hj; simp
      · simp [hj]
        have : ¬ j = w.heap.size := fun h => hj h.symm
        simp [this]
    simp only [convert, Sem.run_bind, run_underlying hs, run_underlying hd, Result.andThen_ok, run_underlying he, Conv.stringToBytes, hc2, newRow, run_newObj, Sem.run_pure]
    have := hm
    simp only [cells] at this
    rw [this]
    rfl
  · simp only [rel]
    refine ⟨some ⟨w.heap.size, 0, none⟩, c, by rw [hlen], ⟨.inr rfl, ?_⟩, by simp [ownRel, hlen]; exact hc1⟩
    rw [frzE_iff]
    exact ⟨hrel.2, frz_put hpost.2.1.le hrel.1⟩

theorem bytesIn_cons {x : V} {xs : List V} {l : List UInt8} (h : bytesIn.go (x :: xs) = some l) : ∃ n l', x = .int .u8 n ∧ bytesIn.go xs = some l' ∧ l = UInt8.ofNat n.toNat :: l' := by
  unfold bytesIn.go at h
  split at h
  · rename_i hh; cases hh
  · rename_i n r hh
    cases hh
    simp only [Option.map_eq_some_iff] at h
    obtain ⟨l', hl', rfl⟩ := h
    exact ⟨n, l', rfl, hl', rfl⟩
  · cases h

theorem bytesIn_spec : ∀ {xs : List V} {us : List Value} {l : List UInt8}, bytesIn.go xs = some l → rels F μ xs us → us.length = l.length ∧ xs.flatMap V.cellsOf = xs ∧
    ∀ (f : Value → ByteArray → Sem (ForInStep ByteArray)), (∀ n s, f (.int .u8 n) s = pure (ForInStep.yield (s.push (UInt8.ofNat n.toNat)))) → ∀ (b : ByteArray), (forIn us b f).run P w = .ok ⟨b.data ++ l.toArray⟩ w
  | [], us, l, h, hr => by
    simp only [bytesIn.go, Option.some.injEq] at h; subst h
    simp only [rels] at hr; subst hr
    simp
  | x :: xs, us, l, h, hr => by
    obtain ⟨u, us', rfl, h1, h2⟩ := hr
    obtain ⟨n, l', rfl, hl', rfl⟩ := bytesIn_cons h
    obtain ⟨g1, g2, g3⟩ := bytesIn_spec hl' h2
    simp only [rel] at h1
    subst h1
    refine ⟨by simp [g1], by simp [V.cellsOf, g2], fun f hf b => ?_⟩
    rw [List.forIn_cons]
    simp only [hf, Sem.run_bind, Sem.run_pure, Result.andThen_ok]
    rw [g3 f hf]
    congr 2
    apply Array.ext'; simp [ByteArray.push]

theorem good_stringOf {s d e : TypeId} {x : V} {u : Value} {xs : List V} {b : ByteArray} {l l' : List Key} (hI : Inv F μ σ w) (hs : P.underlying s = some (.slice e)) (hd : P.underlying d = some .string) (he : P.underlying e = some (.int .u8))
    (hx : rel F μ x u) (hsrc : (source 1 x).run σ l = some (xs, l')) (hb : bytesIn xs = some b) (hns : ∀ q, x ≠ .str q) : Good P (do pure (.value (← convert s d u))) F μ σ w ⟨.str b, []⟩ := by
  obtain ⟨hlen, hcell, us, hus, hfirst, _⟩ := source_run (P := P) hI hx (by decide) hsrc
  simp only [bytesIn, Option.map_eq_some_iff] at hb
  obtain ⟨bl, hbl, rfl⟩ := hb
  have hself : xs.flatMap V.cellsOf = xs := by
    have : ∀ (xs : List V) (l : List UInt8), bytesIn.go xs = some l → xs.flatMap V.cellsOf = xs := fun xs => by
      induction xs with
      | nil => simp
      | cons y r ih =>
        intro l h
        obtain ⟨n, l', rfl, hl', rfl⟩ := bytesIn_cons h
        simp [V.cellsOf, ih l' hl']
    exact this xs bl hbl
  rw [hself] at hus
  obtain ⟨g1, _, g3⟩ := bytesIn_spec (P := P) (w := w) hbl hus
  have hfl := rels_length hus
  have hf := hfirst w rfl xs.length (Nat.le_refl _)
  rw [Nat.mul_one, hfl, List.take_length] at hf
  have hu : ∃ base cap, u = .slice base xs.length cap := by
    cases x <;> simp only [source, Act.run, reduceCtorEq] at hsrc
    · exact absurd rfl (hns _)
    · simp only [rel] at hx
      obtain ⟨base, cap, rfl, _⟩ := hx
      simp only [Builtin.lenOf, Sem.run_pure, Result.ok.injEq, and_true] at hlen
      exact ⟨base, cap, by rw [hlen]⟩
    · simp only [rel] at hx
      subst hx
      simp only [Builtin.lenOf, Sem.run_pure, Result.ok.injEq, and_true] at hlen
      exact ⟨none, 0, by rw [← hlen]⟩
    · simp only [rel] at hx
      obtain ⟨_, _, rfl⟩ := hx
      simp only [Builtin.lenOf, Sem.run_pure, Result.ok.injEq, and_true] at hlen
      exact ⟨_, _, by rw [hlen]⟩
    · simp only [rel] at hx
      obtain ⟨⟨_, _, _, rfl⟩, _⟩ := hx
      simp only [Builtin.lenOf, Sem.run_pure, Result.ok.injEq, and_true] at hlen
      exact ⟨_, _, by rw [hlen]⟩
  obtain ⟨base, cap, rfl⟩ := hu
  refine Good.same hI (v := .string ⟨bl.toArray⟩) ?_ (by simp [rel])
  simp only [convert, Sem.run_bind, run_underlying hs, run_underlying hd, Result.andThen_ok, run_underlying he, Conv.bytesToString]
  cases base with
  | none =>
    simp only [Builtin.firstCells, Sem.run_pure, Result.ok.injEq, and_true] at hf
    have : us = [] := by have := congrArg Array.toList hf; simpa using this.symm
    subst this
    simp at g1
    have : bl = [] := by cases bl with | nil => rfl | cons _ _ => simp at g1
    subst this
    rfl
  | some a =>
    have hf' : (loadCells a xs.length).run P w = .ok us.toArray w := by rw [hfl]; simpa [Builtin.firstCells] using hf
    simp only [Sem.run_bind, hf', Result.andThen_ok]
    rw [← Array.forIn_toList, g3 _ (fun _ _ => rfl)]
    simp only [Result.andThen_ok, Sem.run_pure]
    have he : ByteArray.empty.data = #[] := rfl
    simp [he]

/-! ### the least, the greatest -/
theorem run_min {z : V} : ∀ {r : List V} {u : Value} {us : List Value} {x : V}, rel F μ x u → rels F μ r us → minV x r = some z → ∃ v, (us.foldlM Builtin.min2 u : Sem Value).run P w = .ok v w ∧ rel F μ z v
  | [], u, us, x, hx, hr, h => by
    simp only [rels] at hr; subst hr
    simp only [minV, Option.some.injEq] at h; subst h
    exact ⟨u, by simp, hx⟩
  | y :: r, u, us, x, hx, hr, h => by
    obtain ⟨v, us', rfl, hy, hr'⟩ := hr
    unfold minV at h
    split at h
    · rename_i hh; cases hh
    · rename_i k a k' b r' hh
      cases hh
      split at h
      · rename_i hk
        subst hk
        simp only [rel] at hx hy
        subst hx hy
        obtain ⟨v, h1, h2⟩ := run_min (x := .int k (if b < a then b else a)) (u := .int k (if b < a then b else a)) (by simp [rel]) hr' h
        exact ⟨v, by simp only [List.foldlM_cons, Sem.run_bind, Builtin.min2, Sem.run_pure, Result.andThen_ok, h1], h2⟩
      · cases h
    · cases h

theorem run_max {z : V} : ∀ {r : List V} {u : Value} {us : List Value} {x : V}, rel F μ x u → rels F μ r us → maxV x r = some z → ∃ v, (us.foldlM Builtin.max2 u : Sem Value).run P w = .ok v w ∧ rel F μ z v
  | [], u, us, x, hx, hr, h => by
    simp only [rels] at hr; subst hr
    simp only [maxV, Option.some.injEq] at h; subst h
    exact ⟨u, by simp, hx⟩
  | y :: r, u, us, x, hx, hr, h => by
    obtain ⟨v, us', rfl, hy, hr'⟩ := hr
    unfold maxV at h
    split at h
    · rename_i hh; cases hh
    · rename_i k a k' b r' hh
      cases hh
      split at h
      · rename_i hk
        subst hk
        simp only [rel] at hx hy
        subst hx hy
        obtain ⟨v, h1, h2⟩ := run_max (x := .int k (if b > a then b else a)) (u := .int k (if b > a then b else a)) (by simp [rel]) hr' h
        exact ⟨v, by simp only [List.foldlM_cons, Sem.run_bind, Builtin.max2, Sem.run_pure, Result.andThen_ok, h1], h2⟩
      · cases h
    · cases h

theorem good_copy {t t' ty e : TypeId} {k : Key} {b off len cap n : Nat} {cs : List V} {ys : List V} {x : V} {u : Value} {l l' : List Key} (hI : Inv F μ σ w) (hu : P.underlying t = some (.slice e)) (hs : sizeT P e = some 1)
    (hk : σ.get k = some (.cells cs)) (hb : μ k = some (.blk b none)) (hx : rel F μ x u) (hsrc : (source 1 x).run σ l = some (ys, l')) (hn : n = Nat.min ys.length len) (hfit : off + n ≤ cs.length) :
    Good P (do pure (.value (← Builtin.copy_ #[t, t'] ty #[.slice (some ⟨b, off, none⟩) len cap, u]))) F μ σ w ⟨.int .i64 n, [(k, .cells (splice cs off ((ys.take n).flatMap V.cellsOf)))]⟩ := by
  obtain ⟨hlen, hcell, us, hus, hfirst, huc⟩ := source_run (P := P) hI hx (by decide) hsrc
  have hnl : n ≤ ys.length := by rw [hn]; exact Nat.min_le_left _ _
  have hf := hfirst w rfl n hnl
  rw [Nat.mul_one] at hf
  have hflat : ∀ l : List V, (∀ y ∈ l, y.cellsOf.length = 1) → (l.flatMap V.cellsOf).length = l.length := fun l h => by rw [flatMap_cells_length h, Nat.mul_one]
  obtain ⟨blk, tyb, hw, hcs, hnf⟩ := hI.cells hk hb
  have hlu := rels_length hus
  rw [hflat ys hcell] at hlu
  have hlc := rels_length hcs
  have hlt : (us.take n).length = n := by simp; omega
  have hst := run_storeCells' (P := P) hw (off := off) (xs := us.take n) (by rw [hlt]; omega) (fun v hv => huc v (List.mem_of_mem_take hv))
  have htake : ∀ (l : List V) (n : Nat), (∀ y ∈ l, y.cellsOf.length = 1) → (l.take n).flatMap V.cellsOf = (l.flatMap V.cellsOf).take n := fun l => by
    induction l with
    | nil => simp
    | cons y r ih =>
      intro n h
      cases n with
      | zero => simp
      | succ n =>
        have hy := h y (by simp)
        obtain ⟨c, hc⟩ := List.length_eq_one_iff.1 hy
        simp only [List.take_succ_cons, List.flatMap_cons, hc, List.singleton_append, ih n (fun z hz => h z (by simp [hz]))]
  have hrt : rels F μ ((ys.take n).flatMap V.cellsOf) (us.take n) := by
    rw [htake ys n hcell]
    exact rels_mono F.le_refl (noMu_le μ) _ _ (rels_take n hus)
  refine ⟨.int .i64 n, w.setRow b (blk.take off ++ us.take n ++ blk.drop (off + (us.take n).length)).toArray, F, μ, .inl ?_, Post.setBlk hI hb (by simp) (fun b' hb' => setRow_other w b b' _ hb') rfl rfl ⟨_, tyb, setRow_heap w b _ _ tyb (0, 0) hw, rels_splice hcs hrt, hnf⟩, by simp [rel]⟩
  simp only [Builtin.copy_, List.getElem?_toArray, List.getElem?_cons_zero, List.getElem?_cons_succ, Sem.run_bind, run_underlying hu, Result.andThen_ok, hlen, ← hn, run_sizeOf' hs, hf, hst, Sem.run_pure, goInt]

/-! ### zeros appended -/
theorem zeroCells_u8 {cs : Array Value} (hz : cs = #[.int .u8 0]) (n : Nat) : (Builtin.zeroCells cs n) = Array.replicate n (.int .u8 0) := by
  rw [hz]
  apply Array.ext'
  unfold Builtin.zeroCells
  simp only [Array.toList_map, Array.toList_range, Array.toList_replicate]
  apply List.ext_getElem
  · simp
  · intro i h1 h2
    simp [Nat.mod_one]

theorem good_appendZ {t t' ty e : TypeId} {dst : Nat} {s : V} {us : Value} {n : Int} {a : Ans} {l rd : List Key} (hI : Inv F μ σ w)
    (hu : P.underlying t = some (.slice e)) (hu' : P.underlying t' = some (.int .i64)) (hs : sizeT P e = some 1) (hb : bytesT P e = some 1) (hz : zeroT P e = some [.int .u8 0]) (hn0 : 0 ≤ n) (hn1 : n ≤ 1099511627776)
    (hxs : rel F μ s us) (hr : (appendTo 1 1 dst s (List.replicate n.toNat (.int .u8 0))).run σ l = some (a, rd)) :
    Good P (do pure (.value (← Builtin.append_ #[t, t'] ty #[us, .int .i64 n]))) F μ σ w a := by
  obtain ⟨i, z, hi, hiz, hrels⟩ := zeroT_spec hz
  obtain ⟨i', hi', hby⟩ := bytesT_info hb
  rw [hi] at hi'; cases hi'
  have hzc : z.cells = #[.int .u8 0] := by
    have := hrels F noMu
    simp only [rels, rel] at this
    obtain ⟨u, us', h1, rfl, rfl⟩ := this
    apply Array.ext'
    simpa using h1
  have hw64 : IntKind.i64.wrap n = n := IntWalk.i64_in n (by omega)
  have hai : ∀ w' : World, (asInt (.int .i64 n)).run P w' = .ok n w' := fun _ => rfl
  have hnn : ¬ n < 0 := by omega
  have hnb : ¬ n * ((1 : Nat) : Int) > 2 ^ 48 := by omega
  have ti : ∀ w' : World, (typeInfo e).run P w' = .ok i w' := fun w' => by simp [typeInfo, hi]
  have zv : ∀ w' : World, (zeroValue e).run P w' = .ok z w' := fun w' => by simp [zeroValue, typeInfo, hi, hiz]
  have hrel : rels F noMu ((List.replicate n.toNat (V.int .u8 0)).flatMap V.cellsOf) (List.replicate n.toNat (.int .u8 0)) := by
    generalize n.toNat = q
    induction q with
    | zero => simp [rels]
    | succ q ih => simp only [List.replicate_succ, List.flatMap_cons, V.cellsOf, List.singleton_append]; exact ⟨_, _, rfl, by simp [rel], ih⟩
  have happ : ∀ w' : World, ((if n.toNat * 1 = 0 then pure #[] else do pure (Builtin.zeroCells (← zeroValue e).cells n.toNat)) : Sem (Array Value)).run P w' = .ok (List.replicate n.toNat (.int .u8 0)).toArray w' := fun w' => by
    by_cases h : n.toNat = 0
    · simp [h]
    · simp only [Nat.mul_one, h, if_false, Sem.run_bind, zv, Result.andThen_ok, Sem.run_pure, zeroCells_u8 hzc]
      simp
  refine good_append_gen (e := e) (by_ := 1) (ys := List.replicate n.toNat (.int .u8 0)) (uys := List.replicate n.toNat (.int .u8 0)) hI (by simp) (fun y hy => by rw [List.eq_of_mem_replicate hy]; rfl) hrel (fun v hv => by rw [List.eq_of_mem_replicate hv]; rfl) ?_ ?_ hxs hr
  · intro base len cap hle
    rw [List.length_replicate] at hle ⊢
    unfold Builtin.append_
    simp only [List.getElem?_toArray, List.getElem?_cons_zero, List.getElem?_cons_succ, Sem.run_bind, run_underlying hu, run_underlying hu', Result.andThen_ok, run_sizeOf' hs, Sem.run_pure, if_true, hai, hw64, hnn, if_false, ti, hby, hnb, hle, Bool.not_true, Bool.false_eq_true]
    rw [show (if n.toNat * 1 = 0 then (pure #[] : Sem (Array Value)) else do let __do_lift ← zeroValue e; pure (Builtin.zeroCells __do_lift.cells n.toNat)).run P w = .ok (List.replicate n.toNat (.int .u8 0)).toArray w from happ w]
    simp only [Result.andThen_ok]
    cases base <;> simp
  · intro base len cap old ho hgt hcap hsz hsz'
    rw [List.length_replicate] at *
    have hn1' : Builtin.nextslicecap (len + n.toNat) cap ≤ 2 * (len + n.toNat) := nextslicecap_le (by omega)
    have hn2 : ¬ Builtin.nextslicecap (len + n.toNat) cap * 1 > 2 ^ 48 := by omega
    have hmax : IntKind.i64.max = 9223372036854775807 := by decide
    have hn3 : ¬ (((len + n.toNat : Nat) : Int) > IntKind.i64.max) := by omega
    obtain ⟨c, hc1, hc2⟩ := run_choose_cap (P := P) (w := w) (need := len + n.toNat) (old := cap) (e := e) (by omega)
    have e1 := ho { w with drawn := w.drawn + 1 } rfl
    have e2 := happ { w with drawn := w.drawn + 1 }
    rw [Nat.mul_one] at e2 hn2
    refine ⟨c, { w with drawn := w.drawn + 1, heap := w.heap.push (.cells (old ++ (List.replicate n.toNat (.int .u8 0)).toArray ++ Builtin.zeroCells z.cells (c - (len + n.toNat))) e) }, (Builtin.zeroCells z.cells (c - (len + n.toNat))).toList, hc1, ?_, by
      show w.heap.push _ = w.heap.push _
      congr 2; apply Array.ext'; simp, rfl, rfl, by rw [zeroCells_length, hzc]; simp⟩
    unfold Builtin.append_
    simp only [List.getElem?_toArray, List.getElem?_cons_zero, List.getElem?_cons_succ, Sem.run_bind, run_underlying hu, run_underlying hu', Result.andThen_ok, run_sizeOf' hs, Sem.run_pure, if_true, hai, hw64, hnn, if_false, ti, hby, hnb, hgt, Bool.not_true, Bool.false_eq_true, true_or, and_true, hn3, hn2, hc2, run_askRoom, Nat.mul_one, e1, e2, zv, newRow, run_newObj]

end
end Go.Ev

namespace Go.Ev
open Go

def AOp.isCall : AOp → Bool
  | .call .. | .callv .. | .callR .. => true
  | _ => false

section
variable {P : Program} {w : World} {F : Frz} {μ : Mu} {σ : Store}

theorem zeroT_size {t : TypeId} {cs : List V} (h : zeroT P t = some cs) : zeroSize P t = some cs.length := by
  obtain ⟨i, v, hi, hv, hc⟩ := zeroT_spec h
  have := rels_length (hc (fun _ => none) noMu)
  simp only [Array.length_toList] at this
  simp [zeroSize, hi, hv, this]

theorem fillArgs_eq {tm : Tm} {l : List (Nat × Nat × AOpd)} : fillArgs (AOpd.ev tm) l = l.map fun p => (p.1, p.2.1, p.2.2.ev tm) := by
  induction l with
  | nil => rfl
  | cons p r ih => obtain ⟨o, n, x⟩ := p; simp [fillArgs, ih]

variable {G : Globals} {tm : Tm} {a : Go.Act}

theorem prepFields_rel (hG : ∀ g cs, G.get g = some cs → frz F g 0 cs) (ht : TmRel F μ tm a.tmps) {fs : Array Field} : ∀ {ps : List (Nat × Operand)} {l : List (Nat × Nat × AOpd)}, prepFields P G fs ps = some l →
    partsRel F μ (fun i => (fs.map fun f => (f.offset, (sizeT P f.type).getD 0))[i]?) (fillArgs (AOpd.ev tm) l) (ps.map fun p => (p.1, a.eval p.2))
  | [], l, h => by simp only [prepFields, Option.some.injEq] at h; subst h; simp [fillArgs, partsRel]
  | (i, x) :: r, l, h => by
    simp only [prepFields] at h
    split at h
    · rename_i f y l' h1 h2 h3
      split at h
      · rename_i n hn
        cases h
        refine ⟨i, a.eval x, _, rfl, ?_, rel_coerce (rel_opd hG ht h2), prepFields_rel hG ht h3⟩
        simp [h1, hn]
      · cases h
    · cases h

theorem prepElems_rel (hG : ∀ g cs, G.get g = some cs → frz F g 0 cs) (ht : TmRel F μ tm a.tmps) {e n : Nat} : ∀ {ps : List (Nat × Operand)} {l : List (Nat × Nat × AOpd)}, prepElems P G e n ps = some l →
    partsRel F μ (fun i => some (i * n, n)) (fillArgs (AOpd.ev tm) l) (ps.map fun p => (p.1, a.eval p.2))
  | [], l, h => by simp only [prepElems, Option.some.injEq] at h; subst h; simp [fillArgs, partsRel]
  | (i, x) :: r, l, h => by
    simp only [prepElems] at h
    split at h
    · rename_i y l' h2 h3
      cases h
      exact ⟨i, a.eval x, _, rfl, rfl, rel_coerce (rel_opd hG ht h2), prepElems_rel hG ht h3⟩
    · cases h

theorem prepRow_rel (hG : ∀ g cs, G.get g = some cs → frz F g 0 cs) (ht : TmRel F μ tm a.tmps) {e n : Nat} {agg : Bool} : ∀ {ps : List (Nat × Operand)} {k : Nat} {l : List AOpd} {xs : List V}, prepRow P G e k ps = some l → settles n agg (l.map (AOpd.ev tm)) = some xs →
    xs.length = ps.length ∧ partsRel F noMu (fun i => some (i * n, n)) (rowParts n k xs) (ps.map fun p => (p.1, a.eval p.2))
  | [], k, l, xs, h, hs => by
    simp only [prepRow, Option.some.injEq] at h; subst h
    simp only [List.map_nil, settles, Option.some.injEq] at hs; subst hs
    simp [rowParts, partsRel]
  | (i, x) :: r, k, l, xs, h, hs => by
    simp only [prepRow] at h
    split at h
    · rename_i hik
      subst hik
      split at h
      · rename_i y l' h2 h3
        cases h
        simp only [List.map_cons, settles] at hs
        split at hs
        · rename_i z zs h4 h5
          cases hs
          obtain ⟨g1, g2⟩ := prepRow_rel hG ht h3 h5
          obtain ⟨_, _, s3, _⟩ := settle_spec h4
          exact ⟨by simp [g1], i, a.eval x, _, rfl, rfl, s3 F μ _ (rel_coerce (rel_opd hG ht h2)), g2⟩
        · cases hs
      · cases h
    · cases h

theorem optOpd_rel (hG : ∀ g cs, G.get g = some cs → frz F g 0 cs) (ht : TmRel F μ tm a.tmps) {x : Option Operand} {y : Option AOpd} (h : optOpd G x = some y) : optRel F μ (y.map (AOpd.ev tm)) (x.map a.eval) := by
  cases x with
  | none => simp only [optOpd, Option.some.injEq] at h; subst h; trivial
  | some x =>
    simp only [optOpd, Option.map_eq_some_iff] at h
    obtain ⟨z, hz, rfl⟩ := h
    exact rel_opd hG ht hz

theorem coerce_lit {t : TypeId} {d : Nat} {x : V} {u : Value} (h : rel F μ x u) : rel F μ x u := h

/-- The operations that are answered by a value at once. -/
theorem good_val {s : Sem Value} {x : V} {u : Value} (hI : Inv F μ σ w) (hs : s.run P w = .ok u w) (hx : rel F μ x u) : Good P (do pure (.value (← s))) F μ σ w ⟨x, []⟩ :=
  Good.same hI (by simp only [Sem.run_bind, hs, Result.andThen_ok, Sem.run_pure]) hx

end
end Go.Ev

namespace Go.Ev
open Go
section
variable {P : Program} {w : World} {F : Frz} {μ : Mu} {σ : Store}

theorem rowOfs_spec {esz : Nat} : ∀ {vs cs : List V}, rowOfs esz vs = some cs → (∀ x ∈ vs, x.cellsOf.length = esz ∧ x.cellsOf.all V.isCell = true) ∧ cs = vs.flatMap V.cellsOf
  | [], cs, h => by simp only [rowOfs, Option.some.injEq] at h; subst h; simp
  | v :: r, cs, h => by
    simp only [rowOfs] at h
    split at h
    · rename_i cs' hr
      split at h
      · rename_i hc
        cases h
        obtain ⟨g1, g2⟩ := rowOfs_spec hr
        refine ⟨fun x hx => ?_, by rw [List.flatMap_cons, g2]⟩
        rcases List.mem_cons.1 hx with rfl | hx
        · exact hc
        · exact g1 x hx
      · cases h
    · cases h

variable {G : Globals} {tm : Tm} {a : Go.Act}

theorem prepRow_parts (hG : ∀ g cs, G.get g = some cs → frz F g 0 cs) (ht : TmRel F μ tm a.tmps) {e n : Nat} : ∀ {ps : List (Nat × Operand)} {k : Nat} {l : List AOpd}, prepRow P G e k ps = some l →
    l.length = ps.length ∧ partsRel F μ (fun i => some (i * n, n)) (rowParts n k (l.map (AOpd.ev tm))) (ps.map fun p => (p.1, a.eval p.2))
  | [], k, l, h => by
    simp only [prepRow, Option.some.injEq] at h; subst h
    simp [rowParts, partsRel]
  | (i, x) :: r, k, l, h => by
    simp only [prepRow] at h
    split at h
    · rename_i hik
      subst hik
      split at h
      · rename_i y l' h2 h3
        cases h
        obtain ⟨g1, g2⟩ := prepRow_parts hG ht h3
        exact ⟨by simp [g1], i, a.eval x, _, rfl, rfl, rel_coerce (rel_opd hG ht h2), g2⟩
      · cases h
    · cases h

/-- A literal's cells. -/
theorem run_buildCells {t e : TypeId} {len n : Nat} {xs : List V} {parts : Array (Nat × Value)} (hu : P.underlying t = some (.slice e)) (hn : sizeT P e = some n) (h0 : n ≠ 0) (hz : (zeroSize P e).isSome = true) (hb : len * n ≤ 16777216)
    (hl : xs.length = len) (hx : ∀ x ∈ xs, x.cellsOf.length = n ∧ x.cellsOf.all V.isCell = true) (hp : partsRel F μ (fun i => some (i * n, n)) (rowParts n 0 xs) parts.toList) :
    ∃ cells' : Array Value, (Instr.buildSlice t len parts).run P w = (do pure (.slice (some (← newRow e cells')) len len) : Sem Value).run P w ∧ rels F μ (xs.flatMap V.cellsOf) cells'.toList := by
  obtain ⟨m, hm⟩ := Option.isSome_iff_exists.1 hz
  obtain ⟨i, z, hi, hiz, _⟩ := zeroSize_spec hm
  have h24 : ¬ (len * n > 2 ^ 24) := by omega
  obtain ⟨row, hrl, hrun⟩ : ∃ row : Array Value, row.size = len * n ∧ (Instr.buildSlice t len parts).run P w = (match Instr.fill (fun i => some (i * n, n)) row parts.toList with
      | some cells => (do pure (.slice (some (← newRow e cells)) len len) : Sem Value)
      | none => stuck "buildSlice: a part of the wrong size").run P w := by
    by_cases h : len * n = 0
    · refine ⟨(Array.range (len * n)).map fun x => (#[] : Array Value)[x % (#[] : Array Value).size]!, by simp, ?_⟩
      simp only [Instr.buildSlice, Sem.run_bind, run_underlying hu, Result.andThen_ok, run_sizeOf' hn, h24, if_false, if_pos h, Sem.run_pure]
      generalize Instr.fill _ _ parts.toList = q
      cases q <;> rfl
    · refine ⟨(Array.range (len * n)).map fun x => z.cells[x % z.cells.size]!, by simp, ?_⟩
      simp only [Instr.buildSlice, Sem.run_bind, run_underlying hu, Result.andThen_ok, run_sizeOf' hn, h24, if_false, if_neg h, Sem.run_pure, zeroValue, typeInfo, run_program, hi, hiz]
      generalize Instr.fill _ _ parts.toList = q
      cases q <;> rfl
  have hzs : rels F μ (List.replicate (len * n) V.undef) row.toList := by
    rw [rels_iff]
    refine ⟨by simp [hrl], fun i v u hv _ => ?_⟩
    rw [List.getElem?_replicate] at hv
    split at hv
    · cases hv; simp [rel]
    · cases hv
  have hfv := fillV_row (size := n) xs 0 (List.replicate (len * n) V.undef) (by simp [hl]) hx
  simp only [Nat.zero_mul, List.take_zero, List.nil_append] at hfv
  obtain ⟨cells', hf, hr⟩ := run_fill hzs hp hfv
  refine ⟨cells', ?_, hr⟩
  rw [hrun, hf]

theorem Inv.noFrzNew (hI : Inv F μ σ w) : ∀ off, F ⟨w.heap.size, off, none⟩ = none := fun off => by
  cases hc : F ⟨w.heap.size, off, none⟩ with
  | none => rfl
  | some u => have := hI.frz_lt hc; simp at this

theorem good_buildRow {t e : TypeId} {len n dst : Nat} {xs cs : List V} {parts : Array (Nat × Value)} (hI : Inv F μ σ w) (hu : P.underlying t = some (.slice e)) (hn : sizeT P e = some n) (h0 : n ≠ 0) (hz : (zeroSize P e).isSome = true) (hb : len * n ≤ 16777216)
    (hl : xs.length = len) (hro : rowOfs n xs = some cs) (hp : partsRel F μ (fun i => some (i * n, n)) (rowParts n 0 xs) parts.toList) (hk : σ.get (.loc dst 0) = none) :
    Good P (do pure (.value (← Instr.buildSlice t len parts))) F μ σ w ⟨.rowv (.loc dst 0) n 0 len, [(.loc dst 0, .row cs)]⟩ := by
  obtain ⟨hx, rfl⟩ := rowOfs_spec hro
  obtain ⟨cells', hrun, hr⟩ := run_buildCells (P := P) (w := w) hu hn h0 hz hb hl hx hp
  have hlen := rels_length hr
  rw [flatMap_cells_length (fun x hx' => (hx x hx').1), hl] at hlen
  have hnew := hI.noFrzNew
  have hpost := Post.newBlkT (some (len * n)) (w' := { w with heap := w.heap.push (.cells cells' e) }) hI hk (o := .row (xs.flatMap V.cellsOf)) (g := .cells cells' e) rfl rfl rfl (fun μ' hle => by
    refine ⟨cells'.toList, e, by rw [push_get rfl], hlen.symm, by rw [flatMap_cells_length (fun x hx' => (hx x hx').1), hl]; exact Nat.le_refl _, ?_, hnew⟩
    rw [List.take_of_length_le (by rw [flatMap_cells_length (fun x hx' => (hx x hx').1), hl]; omega)]
    exact rels_mono F.le_refl hle _ _ hr)
  refine ⟨.slice (some ⟨w.heap.size, 0, none⟩) len len, _, _, _, .inl ?_, hpost, ?_⟩
  · rw [Sem.run_bind, hrun]
    simp only [newRow, Sem.run_bind, run_newObj, Result.andThen_ok, Sem.run_pure]
  · simp only [rel]
    exact ⟨⟨_, _, _, rfl⟩, _, _, Mu.set_same .., rfl, fun b' s' h => by cases h; exact ⟨0, len, rfl, .inl ⟨rfl, by simp⟩⟩⟩

theorem zeroCells_isCell : ∀ {ts : List TypeId} {vs : List Value} {xs : List V}, zeroCells P ts vs = some xs → xs.all V.isCell = true
  | [], [], xs, h => by simp only [zeroCells, Option.some.injEq] at h; subst h; rfl
  | [], _ :: _, xs, h => by simp [zeroCells] at h
  | _ :: _, [], xs, h => by simp [zeroCells] at h
  | t :: ts, v :: vs, xs, h => by
    simp only [zeroCells] at h
    split at h
    · rename_i x r h1 h2
      cases h
      have hx : x.isCell = true := by
        unfold zeroCell at h1
        split at h1
        · split at h1 <;> cases h1
          rfl
        · split at h1
          · split at h1
            · rename_i hc; cases h1; exact hc
            · cases h1
          · cases h1
      rw [List.all_cons, hx, zeroCells_isCell h2]; rfl
    · cases h

theorem zeroT_cells {t : TypeId} {cs : List V} (h : zeroT P t = some cs) : cs.all V.isCell = true := by
  unfold zeroT at h
  split at h
  · split at h
    · exact zeroCells_isCell h
    · cases h
  · cases h

theorem splice_nil (cs : List V) (off : Nat) : splice cs off [] = cs := by simp [splice]

theorem good_clearRow {t ty e : TypeId} {m : Nat} {z : List V} {x : V} {u : Value} {ans : Ans} {l rd : List Key} (hI : Inv F μ σ w) (hu : P.underlying t = some (.slice e)) (hm : sizeT P e = some m) (h0 : m ≠ 0) (hz : zeroT P e = some z) (hzl : z.length = m)
    (hr : (match x with
    | .slc e [] _ => Act.just (.tuple [])
    | .nilslc => Act.just (.tuple [])
    | .rowv k e off len => .get k fun
      | .row cs => if e = m ∧ z.length = m ∧ off + len * m ≤ cs.length then .ret ⟨.tuple [], [(k, .row (splice cs off (List.replicate len z).flatten))]⟩ else .fail
      | _ => .fail
    | _ => .fail : Act Ans).run σ l = some (ans, rd)) (hx : rel F μ x u) : Good P (do pure (.value (← Builtin.clear_ #[t] ty #[u]))) F μ σ w ans := by
  cases x <;> (try simp only at hr) <;> try (exact (fail_run hr).elim)
  · rename_i e' xs own
    cases xs <;> (try simp only at hr) <;> try (exact (fail_run hr).elim)
    have := just_run hr; subst this
    simp only [rel] at hx
    obtain ⟨base, cap, rfl, _⟩ := hx
    refine Good.same hI (v := .tuple #[]) ?_ (by simp [rel, rels])
    cases base <;> simp [Builtin.clear_, run_underlying hu]
  · have := just_run hr; subst this
    simp only [rel] at hx
    subst hx
    refine Good.same hI (v := .tuple #[]) ?_ (by simp [rel, rels])
    simp [Builtin.clear_, run_underlying hu]
  · rename_i k e' off len
    obtain ⟨o, ho, hr'⟩ := get_run hr
    clear hr
    have hr := hr'
    clear hr'
    cases o <;> simp only at hr <;> try (exact (fail_run hr).elim)
    rename_i cs
    split at hr
    · rename_i hc
      obtain ⟨rfl, _, hfit⟩ := hc
      have := ret_run hr; simp only at this; subst this
      simp only [rel] at hx
      obtain ⟨_, h, q, hk, hq, hat⟩ := hx
      obtain ⟨b, sz, rfl, rfl, blk, tyb, hw, f1, f2, f3, f4⟩ := hI.row ho hk hq
      obtain ⟨oo, cap, rfl, hcap⟩ := hat b sz rfl
      obtain ⟨i, v, hi, hiv, hrels⟩ := zeroT_spec hz
      have hvc := hrels F μ
      have hvl := rels_length hvc
      simp only [Array.length_toList] at hvl
      by_cases hl0 : len = 0
      · subst hl0
        have e1 : splice cs off (List.replicate 0 z).flatten = cs := by simp [splice_nil]
        rw [e1]
        refine ⟨.tuple #[], w, F, μ, .inl ?_, Post.setBlk hI hk rfl (fun _ _ => rfl) rfl rfl ⟨blk, tyb, hw, f1, f2, f3, f4⟩, by simp [rel, rels]⟩
        simp [Builtin.clear_, run_underlying hu]
      · rcases hcap with ⟨rfl, hcap⟩ | ⟨_, h, _⟩
        · have hzc : (Builtin.zeroCells v.cells len).toList = (List.replicate len v.cells.toList).flatten := by
            rw [← flatten_replicate v.cells.toList e' (by simp; omega) default]
            unfold Builtin.zeroCells
            simp only [Array.toList_map, Array.toList_range]
            rw [show v.cells.size = e' by omega]
            apply List.map_congr_left
            intro a _
            simp [getElem!_def, List.getD_eq_getElem?_getD]
            cases v.cells[a % e']? <;> rfl
          have hrel : rels F μ ((List.replicate len z).flatten) ((List.replicate len v.cells.toList).flatten) := by
            generalize len = q
            induction q with
            | zero => simp [rels]
            | succ q ih => simp only [List.replicate_succ, List.flatten_cons]; exact rels_append hvc ih
          have hlen := rels_length hrel
          have hzlen : ((List.replicate len z).flatten).length = len * e' := by simp [hzl]
          have hzone : ∀ x ∈ (List.replicate len v.cells.toList).flatten, x.oneCell' = true := by
            intro x hx
            have hx1 : x ∈ v.cells.toList := by
              rw [List.mem_flatten] at hx
              obtain ⟨y, hy, hxy⟩ := hx
              rw [List.mem_replicate] at hy
              rw [hy.2] at hxy; exact hxy
            exact oneCell_of_rels hvc (zeroT_cells hz) x hx1
          have hst := run_storeCells' (P := P) hw (off := oo) (xs := (List.replicate len v.cells.toList).flatten) (by rw [← hlen, hzlen]; omega) hzone
          refine ⟨.tuple #[], w.setRow b (blk.take oo ++ (List.replicate len v.cells.toList).flatten ++ blk.drop (oo + ((List.replicate len v.cells.toList).flatten).length)).toArray, F, μ, .inl ?_, Post.setBlk hI hk (by simp) (fun b' hb' => setRow_other w b b' _ hb') rfl rfl
            (row_splice hw f1 f2 f3 hrel f4 (by rw [hzlen]; exact hfit)), by simp [rel, rels]⟩
          have hl0' : ∀ (α : Type) (x y : α), (match len with | 0 => x | _ => y) = y := fun α x y => by cases len with | zero => exact absurd rfl hl0 | succ n => rfl
          cases len with
          | zero => exact absurd rfl hl0
          | succ n =>
            simp only [Builtin.clear_, List.getElem?_toArray, List.getElem?_cons_zero, Sem.run_bind, run_underlying hu, Result.andThen_ok, zeroValue, typeInfo, run_program, hi, hiv, Sem.run_pure, hzc, hst]
        · exact absurd h hl0
    · exact (fail_run hr).elim

/-! ### rows that are written no more -/
theorem Inv.congr {σ' : Store} (hI : Inv F μ σ w) (h : ∀ k, σ'.get k = σ.get k) : Inv F μ σ' w where
  frozen := hI.frozen
  dom1 := fun k o hk => hI.dom1 k o (by rw [← h]; exact hk)
  dom2 := fun k hd hk => by rw [h]; exact hI.dom2 k hd hk
  apart := hI.apart

theorem Post.freezeRow (hI : Inv F μ σ w) {k : Key} {b s : Nat} {cs : List V} (hk : σ.get k = some (.row cs)) (hm : μ k = some (.blk b (some s))) (hf : (cs.map V.thin).all (fun c => c.frozen && c.isCell) = true) :
    ∃ F1, Post F μ w F1 (μ.set k (.idle (some (b, s)))) (σ.put k (.froz (cs.map V.thin))) w ∧ frz F1 b 0 (cs.map V.thin) := by
  obtain ⟨b', s', e1, e2, us, ty, hw, f1, f2, f3, f4⟩ := hI.row hk hm rfl
  cases e1
  have hno := rels_thin_frozen f3 hf
  have hcl : cs.length = (us.take cs.length).length := by have := rels_length hno; simpa using this
  have hone := oneCell_of_rels hno (isCells_of_frozen hf)
  have hF : F.le (F.put b 0 (us.take cs.length)) := Frz.le_put fun off _ _ => f4 off
  have hfz := frz_put hF hno
  have hle : μ.le (μ.set k (.idle (some (b, s)))) := Mu.le_set fun h' hh => by rw [hm] at hh; cases hh; exact .inr (.inl rfl)
  refine ⟨_, ⟨⟨fun a u ha => ?_, fun k' o' hk' => ?_, fun k' h' hk' => ?_, fun k1 k2 h1 h2 hne e1 e2 => ?_⟩, ⟨hF, Nat.le_refl _, fun b' hb' => .inr (.inl rfl), rfl, rfl, fun a u ha => ?_, fun k' h' hk' => ?_⟩, hle⟩, hfz⟩
  · rcases Frz.put_cases ha with h | ⟨h1, h2, h3, h4⟩
    · exact hI.frozen a u h
    · refine ⟨by rw [h1], ?_, hone u (List.mem_of_getElem? h4)⟩
      rw [h1, cell_of_heap hw]
      simp only [Nat.sub_zero] at h4
      rw [List.getElem?_take] at h4
      split at h4
      · exact h4
      · cases h4
  · rw [Store.get_put] at hk'
    split at hk'
    · rename_i he; subst he; cases hk'
      exact ⟨_, Mu.set_same .., hfz, by simpa using f2⟩
    · rename_i he
      obtain ⟨h', g1, g2⟩ := hI.dom1 k' o' hk'
      refine ⟨h', by rw [Mu.set_other (Ne.symm he)]; exact g1, objRel_mono hF hle g2 (fun _ _ => rfl) (fun b' off u hb' hq => ?_)⟩
      rcases Frz.put_cases hq with h | ⟨h, h3, h4, h5⟩
      · exact h
      · exfalso
        have hbb : b' = b := by simpa using congrArg Addr.block h
        subst hbb
        have hd := hI.apart k k' _ h' he hm g1
        rcases hb' with ⟨_, rfl⟩ | ⟨p, r, e, n, rfl, q1, q2⟩
        · exact hd rfl
        · rcases hd with h | h
          · subst h; omega
          · exact h rfl
  · rw [Store.get_put]
    split
    · exact ⟨_, rfl⟩
    · rename_i he
      rw [Mu.set_other (Ne.symm he)] at hk'
      exact hI.dom2 k' h' hk'
  · by_cases c1 : k1 = k
    · subst c1; rw [Mu.set_same] at e1; cases e1; cases h2 <;> simp only [Hd.disj]
    · rw [Mu.set_other c1] at e1
      by_cases c2 : k2 = k
      · subst c2; rw [Mu.set_same] at e2; cases e2; cases h1 <;> simp only [Hd.disj]
      · rw [Mu.set_other c2] at e2
        exact hI.apart k1 k2 h1 h2 hne e1 e2
  · rcases Frz.put_cases ha with h | ⟨h1, _⟩
    · exact .inl h
    · exact .inr (.inr (.inl ⟨k, _, by rw [h1]; exact hm⟩))
  · by_cases c1 : k' = k
    · subst c1; rw [Mu.set_same] at hk'; cases hk'; trivial
    · rw [Mu.set_other c1] at hk'; exact (Ext.refl μ F w).hd k' h' hk'

/-- The store as it was, but for rows that are written no more. -/
def Frozen0 (σ0 σ : Store) : Prop := ∀ k o, σ0.get k = some o → σ.get k = some o ∨ ∃ cs, o = .row cs ∧ σ.get k = some (.froz (cs.map V.thin))

theorem frz_thin {b o : Nat} {cs : List V} (h : frz F b o cs) : frz F b o (cs.map V.thin) := by
  rw [frz_iff] at h ⊢
  intro i c hi
  simp only [List.getElem?_map, Option.map_eq_some_iff] at hi
  obtain ⟨c', hc', rfl⟩ := hi
  obtain ⟨u, h1, h2⟩ := h i c' hc'
  exact ⟨u, h1, rel_thin h2⟩

/-- A part of a row that is written no more, as what stays. -/
theorem rel_frozenRow {b s e off len : Nat} {cs xs : List V} {u : Value} (hf : frz F b 0 (cs.map V.thin)) (hel : elemsOf e len ((cs.drop off).take (len * e)) = some xs) (hs : cs.length ≤ s) (hat : rowAt b s e off len u) : rel F μ (.slc e xs .none) u := by
  obtain ⟨g1, g2, g3, g4, g5, g6⟩ := elemsOf_spec hel
  obtain ⟨oo, cap, rfl, hcap⟩ := hat
  have hlc : len ≤ cap := by
    rcases hcap with ⟨_, h2⟩ | ⟨h1, h2, _⟩
    · rcases Nat.eq_zero_or_pos len with h0 | h0
      · omega
      · have h3 : ((cs.drop off).take (len * e)).length = Nat.min (len * e) (cs.length - off) := by simp
        rw [g1] at h3
        have h4 : 0 < len * e := Nat.mul_pos h0 (Nat.pos_of_ne_zero g2)
        have h5 : Nat.min (len * e) (cs.length - off) ≤ cs.length - off := Nat.min_le_right _ _
        have : len * e ≤ cap * e := by omega
        exact Nat.le_of_mul_le_mul_right this (Nat.pos_of_ne_zero g2)
    · omega
  simp only [rel]
  refine ⟨some ⟨b, oo, none⟩, cap, by rw [g3], ⟨.inr rfl, ?_⟩, by simpa [ownRel, g3] using hlc⟩
  rcases hcap with ⟨rfl, _⟩ | ⟨_, h0, _⟩
  · rw [frzE_iff]
    refine ⟨g4, ?_⟩
    rw [g5, List.map_take, List.map_drop]
    have := frz_take (n := len * e) (frz_drop (n := oo) hf)
    rwa [Nat.zero_add] at this
  · have : xs = [] := List.length_eq_zero_iff.1 (by rw [g3, h0])
    subst this
    simp [frzE]

theorem frzCell_post {σ0 : Store} {v v' : V} {u : Value} {ups : List (Key × Obj)} {l l' : List Key} (hI : Inv F μ σ w) (h0 : Frozen0 σ0 σ) (hv : rel F μ v u) (h : (frzCell v).run σ0 l = some ((v', ups), l')) :
    ∃ F1 μ1, Post F μ w F1 μ1 (σ.puts ups) w ∧ Frozen0 σ0 (σ.puts ups) ∧ rel F1 μ1 v' u := by
  have same : (v', ups) = (v, []) → ∃ F1 μ1, Post F μ w F1 μ1 (σ.puts ups) w ∧ Frozen0 σ0 (σ.puts ups) ∧ rel F1 μ1 v' u := fun he => by
    cases he
    exact ⟨F, μ, Post.refl hI, h0, hv⟩
  unfold frzCell at h
  split at h
  · rename_i k e off len
    obtain ⟨o, ho, h'⟩ := get_run h
    clear h
    have h := h'
    clear h'
    have hv0 := hv
    simp only [rel] at hv
    obtain ⟨_, hd, q, hm, hq, hat⟩ := hv
    cases o <;> simp only at h <;> try (exact (fail_run h).elim)
    · rename_i cs
      split at h
      · rename_i xs hel
        split at h
        · rename_i hfr
          simp only [Act.run, Option.some.injEq, Prod.mk.injEq] at h
          obtain ⟨⟨rfl, rfl⟩, _⟩ := h
          rcases h0 k _ ho with hk | ⟨cs', he, hk⟩
          · obtain ⟨b, s, rfl, rfl, us, ty, hw, f1, f2, f3, f4⟩ := hI.row hk hm hq
            obtain ⟨F1, hp, hfz⟩ := Post.freezeRow hI hk hm hfr
            refine ⟨F1, _, hp, fun k' o' ho' => ?_, rel_frozenRow hfz hel f2 (hat b s rfl)⟩
            simp only [Store.puts, Store.get_put]
            split
            · rename_i he; subst he
              rw [ho] at ho'; cases ho'
              exact .inr ⟨_, rfl, rfl⟩
            · exact h0 k' o' ho'
          · cases he
            obtain ⟨h', h1, h2⟩ := hI.dom1 k _ hk
            rw [hm] at h1; cases h1
            cases hd with
            | blk b t => cases t <;> exact h2.elim
            | spare => exact h2.elim
            | idle o =>
              cases o with
              | none => exact h2.elim
              | some p =>
                obtain ⟨b, s⟩ := p
                simp only [Hd.rowOf, Option.some.injEq] at hq
                subst hq
                have hget : ∀ k', (σ.puts [(k, .froz (cs.map V.thin))]).get k' = σ.get k' := fun k' => by
                  simp only [Store.puts, Store.get_put]
                  split
                  · rename_i he; subst he; exact hk.symm
                  · rfl
                refine ⟨F, μ, ⟨hI.congr hget, Ext.refl .., Mu.le_refl _⟩, fun k' o' ho' => ?_, rel_frozenRow h2.1 hel (by simpa using h2.2) (hat b s rfl)⟩
                rw [hget]; exact h0 k' o' ho'
        · simp only [Act.run, Option.some.injEq, Prod.mk.injEq] at h
          exact same (by rw [← h.1.1, ← h.1.2])
      · simp only [Act.run, Option.some.injEq, Prod.mk.injEq] at h
        exact same (by rw [← h.1.1, ← h.1.2])
    · rename_i cs
      split at h
      · rename_i xs hel
        simp only [Act.run, Option.some.injEq, Prod.mk.injEq] at h
        obtain ⟨⟨rfl, rfl⟩, _⟩ := h
        rcases h0 k _ ho with hk | ⟨cs', he, _⟩
        · obtain ⟨h', h1, h2⟩ := hI.dom1 k _ hk
          rw [hm] at h1; cases h1
          cases hd with
          | blk b t => cases t <;> exact h2.elim
          | spare => exact h2.elim
          | idle o =>
            cases o with
            | none => exact h2.elim
            | some p =>
              obtain ⟨b, s⟩ := p
              simp only [Hd.rowOf, Option.some.injEq] at hq
              subst hq
              exact ⟨F, μ, Post.refl hI, h0, rel_frozenRow (frz_thin h2.1) hel h2.2 (hat b s rfl)⟩
        · cases he
      · simp only [Act.run, Option.some.injEq, Prod.mk.injEq] at h
        exact same (by rw [← h.1.1, ← h.1.2])
  · simp only [Act.run, Option.some.injEq, Prod.mk.injEq] at h
    exact same (by rw [← h.1.1, ← h.1.2])

theorem puts_append : ∀ (a b : List (Key × Obj)) (σ : Store), σ.puts (a ++ b) = (σ.puts a).puts b
  | [], _, _ => rfl
  | (k, o) :: r, b, σ => by simp only [List.cons_append, Store.puts]; exact puts_append r b _

theorem frzCells_post {σ0 : Store} : ∀ {vs vs' : List V} {us : List Value} {ups : List (Key × Obj)} {l l' : List Key} {F : Frz} {μ : Mu} {σ : Store}, Inv F μ σ w → Frozen0 σ0 σ → rels F μ vs us → (frzCells vs).run σ0 l = some ((vs', ups), l') →
    ∃ F1 μ1, Post F μ w F1 μ1 (σ.puts ups) w ∧ Frozen0 σ0 (σ.puts ups) ∧ rels F1 μ1 vs' us
  | [], vs', us, ups, l, l', F, μ, σ, hI, h0, hv, h => by
    simp only [frzCells, Act.run, Option.some.injEq, Prod.mk.injEq] at h
    obtain ⟨⟨rfl, rfl⟩, _⟩ := h
    exact ⟨F, μ, Post.refl hI, h0, hv⟩
  | v :: r, vs', us, ups, l, l', F, μ, σ, hI, h0, hv, h => by
    obtain ⟨u, us', rfl, hv1, hv2⟩ := hv
    simp only [frzCells] at h
    obtain ⟨p, l1, h1, h⟩ := bind_run h
    obtain ⟨q, l2, h2, h⟩ := bind_run h
    simp only [Act.run, Option.some.injEq, Prod.mk.injEq] at h
    obtain ⟨⟨rfl, rfl⟩, _⟩ := h
    obtain ⟨F1, μ1, p1, f1, r1⟩ := frzCell_post hI h0 hv1 h1
    obtain ⟨F2, μ2, p2, f2, r2⟩ := frzCells_post p1.1 f1 (rels_mono p1.2.1.le p1.2.2 _ _ hv2) h2
    rw [puts_append]
    exact ⟨F2, μ2, p1.trans p2, f2, u, us', rfl, rel_mono p2.2.1.le p2.2.2 _ _ r1, r2⟩

theorem frzVal_post {σ0 : Store} {v v' : V} {u : Value} {ups : List (Key × Obj)} {l l' : List Key} (hI : Inv F μ σ w) (h0 : Frozen0 σ0 σ) (hv : rel F μ v u) (h : (frzVal v).run σ0 l = some ((v', ups), l')) :
    ∃ F1 μ1, Post F μ w F1 μ1 (σ.puts ups) w ∧ Frozen0 σ0 (σ.puts ups) ∧ rel F1 μ1 v' u := by
  unfold frzVal at h
  split at h
  · rename_i cs
    obtain ⟨p, l1, h1, h⟩ := bind_run h
    simp only [Act.run, Option.some.injEq, Prod.mk.injEq] at h
    obtain ⟨⟨rfl, rfl⟩, _⟩ := h
    simp only [rel] at hv
    obtain ⟨us, rfl, hc⟩ := hv
    obtain ⟨F1, μ1, p1, f1, r1⟩ := frzCells_post hI h0 hc h1
    exact ⟨F1, μ1, p1, f1, by simp only [rel]; exact ⟨us, rfl, r1⟩⟩
  · exact frzCell_post hI h0 hv h

theorem frzVals_post0 {σ0 : Store} : ∀ {vs vs' : List V} {us : List Value} {ups : List (Key × Obj)} {l l' : List Key} {F : Frz} {μ : Mu} {σ : Store}, Inv F μ σ w → Frozen0 σ0 σ → rels F μ vs us → (frzVals vs).run σ0 l = some ((vs', ups), l') →
    ∃ F1 μ1, Post F μ w F1 μ1 (σ.puts ups) w ∧ Frozen0 σ0 (σ.puts ups) ∧ rels F1 μ1 vs' us
  | [], vs', us, ups, l, l', F, μ, σ, hI, h0, hv, h => by
    simp only [frzVals, Act.run, Option.some.injEq, Prod.mk.injEq] at h
    obtain ⟨⟨rfl, rfl⟩, _⟩ := h
    exact ⟨F, μ, Post.refl hI, h0, hv⟩
  | v :: r, vs', us, ups, l, l', F, μ, σ, hI, h0, hv, h => by
    obtain ⟨u, us', rfl, hv1, hv2⟩ := hv
    simp only [frzVals] at h
    obtain ⟨p, l1, h1, h⟩ := bind_run h
    obtain ⟨q, l2, h2, h⟩ := bind_run h
    simp only [Act.run, Option.some.injEq, Prod.mk.injEq] at h
    obtain ⟨⟨rfl, rfl⟩, _⟩ := h
    obtain ⟨F1, μ1, p1, f1, r1⟩ := frzVal_post hI h0 hv1 h1
    obtain ⟨F2, μ2, p2, f2, r2⟩ := frzVals_post0 p1.1 f1 (rels_mono p1.2.1.le p1.2.2 _ _ hv2) h2
    rw [puts_append]
    exact ⟨F2, μ2, p1.trans p2, f2, u, us', rfl, rel_mono p2.2.1.le p2.2.2 _ _ r1, r2⟩

theorem frzVals_post {vs vs' : List V} {us : List Value} {ups : List (Key × Obj)} {l l' : List Key} (hI : Inv F μ σ w) (hv : rels F μ vs us) (h : (frzVals vs).run σ l = some ((vs', ups), l')) :
    ∃ F1 μ1, Post F μ w F1 μ1 (σ.puts ups) w ∧ (∀ k, σ.get k = none → (σ.puts ups).get k = none) ∧ rels F1 μ1 vs' us := by
  obtain ⟨F1, μ1, p1, f1, r1⟩ := frzVals_post0 hI (fun k o h => .inl h) hv h
  refine ⟨F1, μ1, p1, ?_, r1⟩
  intro k hk
  have keysIn : ∀ {vs vs' : List V} {ups : List (Key × Obj)} {l l' : List Key}, (frzVals vs).run σ l = some ((vs', ups), l') → ∀ p ∈ ups, σ.get p.1 ≠ none := by
    have cell : ∀ {v v' : V} {ups : List (Key × Obj)} {l l' : List Key}, (frzCell v).run σ l = some ((v', ups), l') → ∀ p ∈ ups, σ.get p.1 ≠ none := fun {v v' ups l l'} h => by
      unfold frzCell at h
      split at h
      · obtain ⟨o, ho, h⟩ := get_run h
        cases o <;> simp only at h <;> try (exact (fail_run h).elim)
        · split at h
          · split at h
            · simp only [Act.run, Option.some.injEq, Prod.mk.injEq] at h
              obtain ⟨⟨_, rfl⟩, _⟩ := h
              intro p hp
              simp only [List.mem_singleton] at hp
              subst hp
              rw [ho]; simp
            · simp only [Act.run, Option.some.injEq, Prod.mk.injEq] at h
              obtain ⟨⟨_, rfl⟩, _⟩ := h
              simp
          · simp only [Act.run, Option.some.injEq, Prod.mk.injEq] at h
            obtain ⟨⟨_, rfl⟩, _⟩ := h
            simp
        · split at h
          · simp only [Act.run, Option.some.injEq, Prod.mk.injEq] at h
            obtain ⟨⟨_, rfl⟩, _⟩ := h
            simp
          · simp only [Act.run, Option.some.injEq, Prod.mk.injEq] at h
            obtain ⟨⟨_, rfl⟩, _⟩ := h
            simp
      · simp only [Act.run, Option.some.injEq, Prod.mk.injEq] at h
        obtain ⟨⟨_, rfl⟩, _⟩ := h
        simp
    have cells : ∀ {vs vs' : List V} {ups : List (Key × Obj)} {l l' : List Key}, (frzCells vs).run σ l = some ((vs', ups), l') → ∀ p ∈ ups, σ.get p.1 ≠ none := fun {vs} => by
      induction vs with
      | nil =>
        intro vs' ups l l' h
        simp only [frzCells, Act.run, Option.some.injEq, Prod.mk.injEq] at h
        obtain ⟨⟨_, rfl⟩, _⟩ := h
        simp
      | cons v r ih =>
        intro vs' ups l l' h
        simp only [frzCells] at h
        obtain ⟨p, l1, h1, h⟩ := bind_run h
        obtain ⟨q, l2, h2, h⟩ := bind_run h
        simp only [Act.run, Option.some.injEq, Prod.mk.injEq] at h
        obtain ⟨⟨_, rfl⟩, _⟩ := h
        intro x hx
        rcases List.mem_append.1 hx with hx | hx
        · exact cell h1 x hx
        · exact ih h2 x hx
    intro vs
    induction vs with
    | nil =>
      intro vs' ups l l' h
      simp only [frzVals, Act.run, Option.some.injEq, Prod.mk.injEq] at h
      obtain ⟨⟨_, rfl⟩, _⟩ := h
      simp
    | cons v r ih =>
      intro vs' ups l l' h
      simp only [frzVals] at h
      obtain ⟨p, l1, h1, h⟩ := bind_run h
      obtain ⟨q, l2, h2, h⟩ := bind_run h
      simp only [Act.run, Option.some.injEq, Prod.mk.injEq] at h
      obtain ⟨⟨_, rfl⟩, _⟩ := h
      intro x hx
      rcases List.mem_append.1 hx with hx | hx
      · unfold frzVal at h1
        split at h1
        · obtain ⟨p', l3, h3, h4⟩ := bind_run h1
          simp only [Act.run, Option.some.injEq, Prod.mk.injEq] at h4
          rw [← h4.1] at hx
          exact cells h3 x hx
        · exact cell h1 x hx
      · exact ih h2 x hx
  have key : ∀ (ups : List (Key × Obj)) (s : Store), (∀ p ∈ ups, p.1 ≠ k) → s.get k = none → (s.puts ups).get k = none := fun ups => by
    induction ups with
    | nil => intro s _ h; exact h
    | cons p r ih =>
      intro s hp h
      obtain ⟨k', o⟩ := p
      simp only [Store.puts]
      refine ih _ (fun q hq => hp q (by simp [hq])) ?_
      rw [Store.get_put, if_neg (hp (k', o) (by simp))]
      exact h
  refine key ups σ (fun p hp he => ?_) hk
  have := keysIn h p hp
  rw [he] at this
  exact this hk

/-! ### rows that are in use -/
theorem rptr_alive {k : Key} {o : Obj} {off : Nat} {u : Value} (hI : Inv F μ σ w) (hx : rel F μ (.rptr k off) u) (ho : σ.get k = some o) (hc : o.rowCells.isSome = true) :
    ∃ b, u = .pointer (some ⟨b, off, none⟩) ∧ ∀ off', rel F μ (.rptr k off') (.pointer (some ⟨b, off', none⟩)) := by
  simp only [rel] at hx
  obtain ⟨_, h, q, hm, hq, hat⟩ := hx
  obtain ⟨cs, hcs⟩ := Option.isSome_iff_exists.1 hc
  obtain ⟨b, s, us, rfl, _⟩ := hI.rowRead ho hcs hm hq
  refine ⟨b, hat b s rfl, fun off' => ?_⟩
  simp only [rel]
  exact ⟨⟨_, rfl⟩, h, _, hm, hq, fun b' s' h' => by cases h'; rfl⟩

theorem rowv_alive {k : Key} {o : Obj} {cs : List V} {e off len : Nat} {u : Value} (hI : Inv F μ σ w) (hx : rel F μ (.rowv k e off len) u) (ho : σ.get k = some o) (hc : o.rowCells = some cs) :
    ∃ b s, rowAt b s e off len u ∧ cs.length ≤ s ∧ (∀ e' off' len' v, rowAt b s e' off' len' v → rel F μ (.rowv k e' off' len') v) ∧ ∀ off', rel F μ (.rptr k off') (.pointer (some ⟨b, off', none⟩)) := by
  simp only [rel] at hx
  obtain ⟨_, h, q, hm, hq, hat⟩ := hx
  obtain ⟨b, s, us, rfl, hs, _⟩ := hI.rowRead ho hc hm hq
  refine ⟨b, s, hat b s rfl, hs, fun e' off' len' v hv => ?_, fun off' => ?_⟩
  · have hv0 := hv
    obtain ⟨oo, cap, rfl, _⟩ := hv0
    simp only [rel]
    exact ⟨⟨_, _, _, rfl⟩, h, _, hm, hq, fun b' s' h' => by cases h'; exact hv⟩
  · simp only [rel]
    exact ⟨⟨_, rfl⟩, h, _, hm, hq, fun b' s' h' => by cases h'; rfl⟩

theorem good_sliceRow {t e : TypeId} {k : Key} {o : Obj} {n off len : Nat} {u : Value} {lo hi mx : Option V} {ulo uhi umx : Option Value} {ans : Ans} {l rd : List Key} (hI : Inv F μ σ w) (hu : P.underlying t = some (.slice e)) (hn : sizeT P e = some n) (h0 : n ≠ 0)
    (hx : rel F μ (.rowv k n off len) u) (ho : σ.get k = some o) (r1 : optRel F μ lo ulo) (r2 : optRel F μ hi uhi) (r3 : optRel F μ mx umx)
    (hr : (sliceRow k n off len lo hi mx o.rowCells).run σ l = some (ans, rd)) : Good P (do pure (.value (← Instr.sliceAt t u ulo uhi umx))) F μ σ w ans := by
  cases hc : o.rowCells with
  | none => rw [hc] at hr; exact (fail_run hr).elim
  | some cs =>
    rw [hc] at hr
    obtain ⟨b, s, hat, hs, hrow, _⟩ := rowv_alive hI hx ho hc
    obtain ⟨oo, cap, rfl, hcap⟩ := hat
    have hpos : 0 < n := Nat.pos_of_ne_zero h0
    simp only [sliceRow] at hr
    split at hr
    · rename_i lo' hi' e1 e2 e3
      split at hr
      · rename_i hcond
        obtain ⟨c1, c2, c3⟩ := hcond
        have := just_run hr; subst this
        have hmx : umx = none := by
          rcases intArg_rel' e3 r3 with ⟨_, h⟩ | ⟨_, _, h, _⟩
          · exact h
          · cases h
        subst hmx
        -- the bounds
        have hb : ∃ (lo0 hi0 : Nat), lo0 = (lo'.getD 0).toNat ∧ hi0 = (hi'.getD len).toNat ∧ lo0 ≤ hi0 ∧ hi0 ≤ cap ∧ (Instr.sliceBounds true len cap ulo uhi none).run P w = .ok (lo0, hi0, cap) w := by
          refine ⟨_, _, rfl, rfl, by omega, ?_, ?_⟩
          · rcases hcap with ⟨rfl, h2⟩ | ⟨h1, h2, h3⟩
            · have : (hi'.getD len).toNat * n ≤ cap * n := by omega
              exact Nat.le_of_mul_le_mul_right this hpos
            · have : (hi'.getD len).toNat * n = 0 := by omega
              rcases Nat.mul_eq_zero.1 this with h | h
              · omega
              · exact absurd h h0
          · have hle : (hi'.getD len).toNat ≤ cap := by
              rcases hcap with ⟨rfl, h2⟩ | ⟨h1, h2, h3⟩
              · have : (hi'.getD len).toNat * n ≤ cap * n := by omega
                exact Nat.le_of_mul_le_mul_right this hpos
              · have : (hi'.getD len).toNat * n = 0 := by omega
                rcases Nat.mul_eq_zero.1 this with h | h
                · omega
                · exact absurd h h0
            rcases intArg_rel' e1 r1 with ⟨rfl, rfl⟩ | ⟨n1, k1, rfl, rfl⟩ <;> rcases intArg_rel' e2 r2 with ⟨rfl, rfl⟩ | ⟨n2, k2, rfl, rfl⟩ <;> simp only [Option.getD_none, Option.getD_some] at c1 c2 hle
            · simp [Instr.sliceBounds]
            · simp only [Instr.sliceBounds, Sem.run_bind, Sem.run_pure, Result.andThen_ok, run_sliceBound (k := k2) (i := n2) (y := cap) (by omega) (by omega)]
              simp
            · simp only [Instr.sliceBounds, Sem.run_bind, Sem.run_pure, Result.andThen_ok, run_sliceBound (k := k1) (i := n1) (y := len) (by omega) (by omega)]
              simp
            · have hb3 : n1 ≤ (n2.toNat : Int) := by omega
              simp only [Instr.sliceBounds, Sem.run_bind, Sem.run_pure, Result.andThen_ok, run_sliceBound (k := k2) (i := n2) (y := cap) (by omega) (by omega), run_sliceBound (k := k1) (i := n1) (y := n2.toNat) (by omega) hb3]
              simp
        obtain ⟨lo0, hi0, q1, q2, q3, q4, hrun⟩ := hb
        have e5 : (hi'.getD len - lo'.getD 0).toNat = hi0 - lo0 := by omega
        rw [e5, ← q1]
        refine good_val (u := .slice (some (if cap = lo0 then ⟨b, oo, none⟩ else (⟨b, oo, none⟩ : Addr).add (lo0 * n))) (hi0 - lo0) (cap - lo0)) hI ?_ (hrow _ _ _ _ ?_)
        · simp only [Instr.sliceAt, Sem.run_bind, run_underlying hu, Result.andThen_ok, Instr.slice, hrun, run_sizeOf' hn, Sem.run_pure]
          by_cases h : cap = lo0 <;> simp [h]
        · rw [addr_add]
          rcases hcap with ⟨rfl, h2⟩ | ⟨h1, h2, h3⟩
          · by_cases h : cap = lo0
            · subst h
              exact ⟨oo, 0, by simp, .inr ⟨rfl, by omega, by omega⟩⟩
            · refine ⟨oo + lo0 * n, cap - lo0, by simp [h], .inl ⟨rfl, ?_⟩⟩
              have : lo0 * n + (cap - lo0) * n = cap * n := by rw [← Nat.add_mul]; congr 1; omega
              omega
          · have hz : lo0 = 0 := by omega
            subst h1 hz
            exact ⟨oo, 0, by simp, .inr ⟨rfl, by omega, by omega⟩⟩
      · exact (fail_run hr).elim
    · rename_i lo' hi' m e1 e2 e3
      split at hr
      · rename_i hcond
        obtain ⟨c0, c1, c2, c3, c4⟩ := hcond
        have := just_run hr; subst this
        obtain ⟨n2, hn2⟩ := Option.isSome_iff_exists.1 c0
        subst hn2
        rcases intArg_rel' e3 r3 with ⟨h, _⟩ | ⟨n3, k3, h3, rfl⟩
        · cases h
        cases h3
        rcases intArg_rel' e2 r2 with ⟨h, _⟩ | ⟨n2', k2, h2', rfl⟩
        · cases h
        cases h2'
        simp only [Option.getD_some] at c3
        subst c3
        have hle : n2.toNat ≤ cap := by
          rcases hcap with ⟨rfl, h2⟩ | ⟨h1, h2, h3⟩
          · have : n2.toNat * n ≤ cap * n := by omega
            exact Nat.le_of_mul_le_mul_right this hpos
          · have : n2.toNat * n = 0 := by omega
            rcases Nat.mul_eq_zero.1 this with h | h
            · omega
            · exact absurd h h0
        have hb3 : n2 ≤ (n2.toNat : Int) := by omega
        have hrun : (Instr.sliceBounds true len cap ulo (some (.int k2 n2)) (some (.int k3 n2))).run P w = .ok (n2.toNat, n2.toNat, n2.toNat) w := by
          rcases intArg_rel' e1 r1 with ⟨rfl, rfl⟩ | ⟨n1, k1, rfl, rfl⟩ <;> simp only [Option.getD_none, Option.getD_some] at c1 c2
          · subst c2
            simp only [Instr.sliceBounds, Sem.run_bind, Sem.run_pure, Result.andThen_ok, run_sliceBound (k := k3) (i := 0) (y := cap) (by omega) (by omega), run_sliceBound (k := k2) (i := 0) (y := (0 : Int).toNat) (by omega) (by omega)]
            simp
          · subst c2
            simp only [Instr.sliceBounds, Sem.run_bind, Sem.run_pure, Result.andThen_ok, run_sliceBound (k := k3) (i := n1) (y := cap) (by omega) (by omega), run_sliceBound (k := k2) (i := n1) (y := n1.toNat) (by omega) hb3, run_sliceBound (k := k1) (i := n1) (y := n1.toNat) (by omega) hb3]
        refine good_val (u := .slice (some ⟨b, oo, none⟩) 0 0) hI ?_ ?_
        · simp only [Instr.sliceAt, Sem.run_bind, run_underlying hu, Result.andThen_ok, Instr.slice, hrun, run_sizeOf' hn, Sem.run_pure]
          simp
        · simp only [rel]
          exact ⟨some ⟨b, oo, none⟩, 0, by simp, by simp [frzE], rfl⟩
      · exact (fail_run hr).elim
    · exact (fail_run hr).elim

def idxs : Nat → List Value → List (Nat × Value)
  | _, [] => []
  | k, u :: r => (k, u) :: idxs (k + 1) r
theorem idxs_length : ∀ (k : Nat) (us : List Value), (idxs k us).length = us.length
  | _, [] => rfl
  | k, u :: r => by simp [idxs, idxs_length]

theorem prepRow_rels (hG : ∀ g cs, G.get g = some cs → frz F g 0 cs) (ht : TmRel F μ tm a.tmps) {e : Nat} : ∀ {ps : List (Nat × Operand)} {k : Nat} {l : List AOpd}, prepRow P G e k ps = some l →
    ∃ us, (ps.map fun p => (p.1, a.eval p.2)) = idxs k us ∧ rels F μ (l.map (AOpd.ev tm)) us
  | [], k, l, h => by
    simp only [prepRow, Option.some.injEq] at h; subst h
    exact ⟨[], rfl, rfl⟩
  | (i, x) :: r, k, l, h => by
    simp only [prepRow] at h
    split at h
    · rename_i hik
      subst hik
      split at h
      · rename_i y l' h2 h3
        cases h
        obtain ⟨us, g1, g2⟩ := prepRow_rels hG ht h3
        exact ⟨a.eval x :: us, by simp [idxs, g1], _, _, rfl, rel_coerce (rel_opd hG ht h2), g2⟩
      · cases h
    · cases h

theorem partsRel_idxs {n : Nat} : ∀ {xs : List V} {us : List Value} {k : Nat}, rels F μ xs us → partsRel F μ (fun i => some (i * n, n)) (rowParts n k xs) (idxs k us)
  | [], us, k, h => by simp only [rels] at h; subst h; simp [rowParts, partsRel, idxs]
  | x :: r, us, k, h => by
    obtain ⟨u, us', rfl, h1, h2⟩ := h
    exact ⟨k, u, _, rfl, rfl, h1, partsRel_idxs h2⟩
end
end Go.Ev
