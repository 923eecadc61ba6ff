/-
  Each operation does in memory what it does on plain values: new memory, and what is written.
-/
import Derived.Test.YtiiohfojejfolaaDoorEv6
set_option linter.unusedVariables false
set_option linter.unusedSimpArgs false
namespace Go.Ev
open Go
section
variable {P : Program} {w : World} {F : Frz} {μ : Mu} {σ : Store}

theorem new_run {α : Type} {k : Key} {f : Act α} {l : List Key} {r : α × List Key} (h : (Act.new k f).run σ l = some r) : σ.get k = none ∧ f.run σ (k :: l) = some r := by
  simp only [Act.run] at h
  split at h
  · cases h
  · rename_i hk; exact ⟨hk, h⟩

theorem ret_run {α : Type} {a : α} {l : List Key} {r : α × List Key} (h : (Act.ret a).run σ l = some r) : r.1 = a := by
  simp only [Act.run, Option.some.injEq] at h; rw [← h]

theorem get_run {α : Type} {k : Key} {f : Obj → Act α} {l : List Key} {r : α × List Key} (h : (Act.get k f).run σ l = some r) : ∃ o, σ.get k = some o ∧ (f o).run σ (k :: l) = some r := by
  simp only [Act.run] at h
  split at h
  · rename_i o ho; exact ⟨o, ho, h⟩
  · cases h

theorem fail_run {α : Type} {l : List Key} {r : α × List Key} (h : (Act.fail : Act α).run σ l = some r) : False := by simp [Act.run] at h

theorem zeroCell_rel {t : TypeId} {v : Value} {x : V} (h : zeroCell P t v = some x) : rel F μ x v := by
  unfold zeroCell at h
  split at h
  · split at h
    · cases h; simp only [rel]; exact ⟨none, 0, by simp, by simp, rfl⟩
    · cases h
  · split at h
    · split at h
      · cases h; rename_i hv _; exact rel_ofValue _ _ hv
      · cases h
    · cases h

theorem zeroCells_rels : ∀ {ts : List TypeId} {vs : List Value} {xs : List V}, zeroCells P ts vs = some xs → rels F μ xs vs
  | [], [], xs, h => by simp only [zeroCells, Option.some.injEq] at h; subst h; simp [rels]
  | [], _ :: _, xs, h => by simp [zeroCells] at h
  | _ :: _, [], xs, h => by simp [zeroCells] at h
  | t :: ts, v :: vs, xs, h => by
    simp only [zeroCells] at h
    split at h
    · rename_i x r h1 h2
      cases h
      exact ⟨v, vs, rfl, zeroCell_rel h1, zeroCells_rels h2⟩
    · cases h

theorem zeroT_spec {t : TypeId} {cs : List V} (h : zeroT P t = some cs) : ∃ i v, P.info? t = some i ∧ i.zero = some v ∧ ∀ (F : Frz) (μ : Mu), rels F μ cs v.cells.toList := by
  unfold zeroT at h
  split at h
  · rename_i i ts hi _
    split at h
    · rename_i v hv
      exact ⟨i, v, hi, hv, fun F μ => zeroCells_rels h⟩
    · cases h
  · cases h

theorem good_alloc {t : TypeId} {cs : List V} {k : Key} {a : Ans} {l rd : List Key} (hI : Inv F μ σ w) (hz : zeroT P t = some cs)
    (hr : (Act.new k (.ret ⟨.ptr k 0, [(k, .cells cs)]⟩)).run σ l = some (a, rd)) : Good P (do pure (.value (← Instr.alloc t true (.tuple #[])))) F μ σ w a := by
  obtain ⟨hk, hr⟩ := new_run hr
  have := ret_run hr; subst this
  obtain ⟨i, v, hi, hv, hc⟩ := zeroT_spec hz
  refine ⟨.pointer (some ⟨w.heap.size, 0, none⟩), { w with heap := w.heap.push (.cells v.cells t) }, F, μ.set k (.blk w.heap.size), .inl ?_, ?_, ?_⟩
  · simp [Instr.alloc, zeroValue, typeInfo, hi, hv, newVar, newRow]
  · exact Post.newBlk hI hk rfl rfl rfl fun μ' _ => ⟨v.cells.toList, t, by simp, hc F μ', fun off => by
      cases hq : F ⟨w.heap.size, off, none⟩ with
      | none => rfl
      | some u => have := hI.frz_lt hq; simp at this⟩
  · simp only [rel]; exact ⟨_, Mu.set_same .., rfl⟩

theorem good_box {t : TypeId} {x : V} {u : Value} {k : Key} {a : Ans} {l rd : List Key} (hI : Inv F μ σ w) (hx : rel F μ x u) (hc : x.cellsOf.all V.isCell = true)
    (hr : (Act.new k (.ret ⟨.ptr k 0, [(k, .cells x.cellsOf)]⟩)).run σ l = some (a, rd)) : Good P (do pure (.value (← Instr.box t u))) F μ σ w a := by
  obtain ⟨hk, hr⟩ := new_run hr
  have := ret_run hr; subst this
  have hn : x ≠ .undef := by rintro rfl; simp [V.cellsOf, V.isCell] at hc
  have hcs := rel_cells hx hn
  refine ⟨.pointer (some ⟨w.heap.size, 0, none⟩), { w with heap := w.heap.push (.cells u.cells t) }, F, μ.set k (.blk w.heap.size), .inl ?_, ?_, ?_⟩
  · simp [Instr.box, newVar, newRow]
  · exact Post.newBlk hI hk rfl rfl rfl fun μ' hm => ⟨u.cells.toList, t, by simp, rels_mono F.le_refl hm _ _ hcs, fun off => by
      cases hq : F ⟨w.heap.size, off, none⟩ with
      | none => rfl
      | some u => have := hI.frz_lt hq; simp at this⟩
  · simp only [rel]; exact ⟨_, Mu.set_same .., rfl⟩

theorem good_makeMap {t : TypeId} {k : Key} {a : Ans} {l rd : List Key} (hI : Inv F μ σ w)
    (hr : (Act.new k (.ret ⟨.map k, [(k, .map [])]⟩)).run σ l = some (a, rd)) : Good P (do pure (.value (← Instr.makeMap t none))) F μ σ w a := by
  obtain ⟨hk, hr⟩ := new_run hr
  have := ret_run hr; subst this
  refine ⟨.map (some w.heap.size), { w with heap := w.heap.push (.map #[] 0) }, F, μ.set k (.blk w.heap.size), .inl ?_, ?_, ?_⟩
  · simp [Instr.makeMap]
  · exact Post.newBlk hI hk rfl rfl rfl fun μ' _ => ⟨#[], 0, by simp, rfl⟩
  · simp only [rel]; exact ⟨_, Mu.set_same .., rfl⟩

theorem splice_length {cs vs : List V} {off : Nat} (h : off + vs.length ≤ cs.length) : (splice cs off vs).length = cs.length := by
  unfold splice; simp; omega

theorem rels_splice {cs vs : List V} {us xs : List Value} {off : Nat} (h : rels F μ cs us) (h' : rels F μ vs xs) :
    rels F μ (splice cs off vs) (us.take off ++ xs ++ us.drop (off + xs.length)) := by
  unfold splice
  rw [rels_length h']
  exact rels_append (rels_append (rels_take _ h) h') (rels_drop _ h)

theorem oneCell_of_rels {vs : List V} {us : List Value} (h : rels F μ vs us) (hc : vs.all V.isCell = true) : ∀ u ∈ us, u.oneCell' = true := by
  intro u hu
  obtain ⟨i, hi⟩ := List.getElem?_of_mem hu
  have hl := rels_length h
  have hlt : i < vs.length := by
    rw [hl]
    rcases Nat.lt_or_ge i us.length with h' | h'
    · exact h'
    · rw [List.getElem?_eq_none h'] at hi; cases hi
  have := (rels_iff.1 h).2 i vs[i] u (List.getElem?_eq_getElem hlt) hi
  have hcell : vs[i].isCell = true := by
    rw [List.all_eq_true] at hc; exact hc _ (List.getElem_mem hlt)
  obtain ⟨h1, h2⟩ := rel_isCell this hcell
  cases u <;> first | rfl | exact absurd rfl (h1 _) | exact absurd rfl (h2 _)

theorem run_storeCells' {b off : Nat} {us xs : List Value} {ty : TypeId} (hw : w.heap[b]? = some (.cells us.toArray ty (0, 0))) (hl : off + xs.length ≤ us.length) (h1 : ∀ u ∈ xs, u.oneCell' = true) :
    (storeCells ⟨b, off, none⟩ xs).run P w = .ok () (w.setRow b (us.take off ++ xs ++ us.drop (off + xs.length)).toArray) := by
  have := run_storeCells_at P b off ty xs 0 us.toArray w hw (by simpa using hl) h1
  simpa using this

theorem good_store {t : TypeId} {n : Nat} {x y : V} {u v : Value} {a : Ans} {rd : List Key} (hI : Inv F μ σ w) (ht : sizeT P t = some n) (hx : rel F μ x u) (hy : rel F μ y v)
    (hr : (match x with
      | .ptr k off => Act.get k fun
        | .cells cs =>
          if y.cellsOf.length = n ∧ off + n ≤ cs.length ∧ y.cellsOf.all V.isCell = true then .ret (⟨.tuple [], [(k, .cells (splice cs off y.cellsOf))]⟩ : Ans) else .fail
        | _ => .fail
      | _ => Act.fail).run σ [] = some (a, rd)) : Good P (do Instr.storeAt t u v; pure .skip) F μ σ w a := by
  cases x <;> simp only [Act.run, reduceCtorEq] at hr
  case ptr k off =>
    simp only [rel] at hx
    obtain ⟨b, hb, rfl⟩ := hx
    split at hr
    · rename_i o ho
      cases o <;> simp only [Act.run, reduceCtorEq] at hr
      case cells cs =>
        obtain ⟨us, ty, hw, hc, hf⟩ := hI.cells ho hb
        split at hr
        · rename_i hl
          obtain ⟨h1, h2, h3⟩ := hl
          have := ret_run hr; simp only at this; subst this
          have hn : y ≠ .undef := by rintro rfl; simp [V.cellsOf, V.isCell] at h3
          have hcs := rel_cells hy hn
          have hlen := rels_length hcs
          have hlen2 := rels_length hc
          have hst := run_storeCells' (P := P) hw (off := off) (xs := v.cells.toList) (by rw [← hlen, h1, ← hlen2]; exact h2) (oneCell_of_rels hcs h3)
          refine ⟨undef, w.setRow b (us.take off ++ v.cells.toList ++ us.drop (off + v.cells.toList.length)).toArray, F, μ, .inr ⟨?_, rfl⟩, ?_, by simp [rel, rels, undef]⟩
          · have hsz : v.cells.size = n := by rw [← h1, hlen]; simp
            simp only [Instr.storeAt, Instr.sureAddr, storeVar, Sem.run_bind, Sem.run_pure, Result.andThen_ok, run_sizeOf' ht, hsz, ne_eq, not_true_eq_false, if_false, hst]
          · refine Post.setBlk hI hb (by simp) (fun b' hb' => setRow_other w b b' _ hb') rfl rfl ?_
            exact ⟨_, ty, setRow_heap w b _ _ ty (0, 0) hw, rels_splice hc hcs, hf⟩
        · exact (fail_run hr).elim
    · cases hr

/-! ### whole numbers, truths, texts -/

/-- A number, a truth or a text, in memory. -/
def V.val : V → Value
  | .bool b => .bool b
  | .int k n => .int k n
  | .str s => .string s
  | _ => Go.undef

theorem rel_val {x : V} (h : x.flatCell = true) : rel F μ x x.val := by
  cases x <;> simp [V.flatCell] at h <;> simp [rel, V.val]

theorem run_intOp {op : BinOp} {k : IntKind} {a b : Int} {x : V} (h : intOp op k a b = some x) {t : TypeId} :
    (binOp op t (.int k a) (.int k b)).run P w = .ok x.val w ∧ x.flatCell = true := by
  cases op <;> simp only [intOp, reduceCtorEq] at h
  case quo =>
    split at h
    · cases h
    · rename_i h0; cases h; exact ⟨by simp [binOp, Op.intDiv, h0, V.val], rfl⟩
  case rem =>
    split at h
    · cases h
    · rename_i h0; cases h; exact ⟨by simp [binOp, Op.intDiv, h0, V.val], rfl⟩
  all_goals
    cases h
    exact ⟨by simp [binOp, Op.intArith, Op.intBits, Op.intCmp, V.val], rfl⟩

theorem run_shiftOp {op : BinOp} {k k' : IntKind} {a b : Int} {x : V} (h : shiftOp op k a b = some x) {t : TypeId} :
    (binOp op t (.int k a) (.int k' b)).run P w = .ok x.val w ∧ x.flatCell = true := by
  cases op <;> simp only [shiftOp, reduceCtorEq] at h
  all_goals
    split at h
    · cases h
    · rename_i h0
      cases h
      refine ⟨?_, rfl⟩
      simp only [binOp, Op.shift, h0, if_false, V.val]
      first | rfl | (have : Nat.min b.toNat k.bits = min b.toNat k.bits := rfl; simp [this])

theorem run_strOp {op : BinOp} {a b : ByteArray} {x : V} (h : strOp op a b = some x) {t : TypeId} :
    (binOp op t (.string a) (.string b)).run P w = .ok x.val w ∧ x.flatCell = true := by
  cases op <;> simp only [strOp, reduceCtorEq] at h
  case add =>
    split at h
    · rename_i h0
      cases h
      refine ⟨?_, rfl⟩
      have : ¬ (((a.size + b.size : Nat) : Int) > IntKind.i64.max) := by
        have : IntKind.i64.max = 9223372036854775807 := by decide
        omega
      simp only [binOp, Op.stringOp, this, if_false, Sem.run_pure, V.val]
    · cases h
  all_goals (cases h; exact ⟨by simp [binOp, Op.stringOp, V.val], rfl⟩)

theorem eqGuard_plain {op : BinOp} {t : TypeId} {x y : Operand} {a b : Value} (h1 : a ≠ .nilIface) (h2 : ∀ c, a ≠ .agg c) : (eqGuard op t x y a b).run P w = .ok () w := by
  unfold eqGuard
  cases a <;> cases b <;> first | exact absurd rfl h1 | exact absurd rfl (h2 _) | (cases op <;> simp)

def TK.fits (P : Program) (t : TypeId) : TK → Prop
  | .num => True
  | .bool => P.underlying t = some .bool
  | .ptr => ∃ e, P.underlying t = some (.pointer e)
  | .slc => ∃ e, P.underlying t = some (.slice e)
  | .map => ∃ k e, P.underlying t = some (.map k e)
  | .func => ∃ a b c, P.underlying t = some (.func a b c)

theorem run_isNil {tk : TK} {t : TypeId} {x y : V} {u v : Value} {r : Bool} (hx : rel F μ x u) (hy : rel F μ y v) (h : isNil tk x y = some r) (ht : tk.fits P t) (d : Nat) :
    (Op.equalIn (d + 1) t u v).run P w = .ok r w ∧ u ≠ .nilIface ∧ (∀ c, u ≠ .agg c) ∧ (∀ k n, u ≠ .int k n) ∧ (∀ s, u ≠ .string s) ∧ (∀ k n, u ≠ .float k n) ∧ (∀ k m n, u ≠ .complex k m n) := by
  unfold isNil at h
  split at h <;> simp only [TK.fits] at ht <;> (try cases h; done)
  case h_1 | h_2 | h_3 | h_4 | h_5 =>
    obtain ⟨e, ht⟩ := ht
    cases h
    simp only [rel] at hx hy
    first
      | (subst hx hy; refine ⟨?_, by simp, by simp, by simp, by simp, by simp, by simp⟩; simp [Op.equalIn, run_underlying ht]; done)
      | (subst hx; obtain ⟨b, _, rfl⟩ := hy; refine ⟨?_, by simp, by simp, by simp, by simp, by simp, by simp⟩; simp [Op.equalIn, run_underlying ht]; done)
      | (subst hy; obtain ⟨b, _, rfl⟩ := hx; refine ⟨?_, by simp, by simp, by simp, by simp, by simp, by simp⟩; simp [Op.equalIn, run_underlying ht]; done)
      | (subst hx; obtain ⟨b, o, rfl, _⟩ := hy; refine ⟨?_, by simp, by simp, by simp, by simp, by simp, by simp⟩; simp [Op.equalIn, run_underlying ht]; done)
      | (subst hy; obtain ⟨b, o, rfl, _⟩ := hx; refine ⟨?_, by simp, by simp, by simp, by simp, by simp, by simp⟩; simp [Op.equalIn, run_underlying ht]; done)
  case h_6 =>
    obtain ⟨e, ht⟩ := ht
    cases h
    simp only [rel] at hx hy
    subst hx hy; refine ⟨?_, by simp, by simp, by simp, by simp, by simp, by simp⟩; simp [Op.equalIn, run_underlying ht]
  case h_7 =>
    obtain ⟨e, ht⟩ := ht
    split at h
    · cases h
    · rename_i hne
      cases h
      simp only [rel] at hx hy
      obtain ⟨base, cap, rfl, hb, hnn⟩ := hy
      subst hx
      cases base with
      | none => rw [hb.1] at hne; simp at hne; subst hne; exact absurd hnn.2 (by simp)
      | some a => refine ⟨?_, by simp, by simp, by simp, by simp, by simp, by simp⟩; simp [Op.equalIn, run_underlying ht]
  case h_8 =>
    obtain ⟨e, ht⟩ := ht
    split at h
    · cases h
    · rename_i hne
      cases h
      simp only [rel] at hx hy
      obtain ⟨base, cap, rfl, hb, hnn⟩ := hx
      subst hy
      cases base with
      | none => rw [hb.1] at hne; simp at hne; subst hne; exact absurd hnn.2 (by simp)
      | some a => refine ⟨?_, by simp, by simp, by simp, by simp, by simp, by simp⟩; simp [Op.equalIn, run_underlying ht]
  case h_9 | h_10 | h_11 =>
    obtain ⟨k, e, ht⟩ := ht
    cases h
    simp only [rel] at hx hy
    first
      | (subst hx hy; refine ⟨?_, by simp, by simp, by simp, by simp, by simp, by simp⟩; simp [Op.equalIn, run_underlying ht]; done)
      | (subst hx; obtain ⟨b, _, rfl⟩ := hy; refine ⟨?_, by simp, by simp, by simp, by simp, by simp, by simp⟩; simp [Op.equalIn, run_underlying ht]; done)
      | (subst hy; obtain ⟨b, _, rfl⟩ := hx; refine ⟨?_, by simp, by simp, by simp, by simp, by simp, by simp⟩; simp [Op.equalIn, run_underlying ht]; done)
  case h_12 | h_13 | h_14 =>
    obtain ⟨p, q, e, ht⟩ := ht
    cases h
    simp only [rel] at hx hy
    first
      | (subst hx hy; refine ⟨?_, by simp, by simp, by simp, by simp, by simp, by simp⟩; simp [Op.equalIn, run_underlying ht]; done)
      | (subst hx; obtain ⟨b, c, rfl, _⟩ := hy; refine ⟨?_, by simp, by simp, by simp, by simp, by simp, by simp⟩; simp [Op.equalIn, run_underlying ht]; done)
      | (subst hy; obtain ⟨b, c, rfl, _⟩ := hx; refine ⟨?_, by simp, by simp, by simp, by simp, by simp, by simp⟩; simp [Op.equalIn, run_underlying ht]; done)

theorem run_equal_bool {t : TypeId} {a b : Bool} (ht : P.underlying t = some .bool) : (Op.equal t (.bool a) (.bool b)).run P w = .ok (a == b) w := by
  have : ∀ d, (Op.equalIn (d + 1) t (.bool a) (.bool b)).run P w = .ok (a == b) w := fun d => by simp [Op.equalIn, run_underlying ht]
  exact this 9999

theorem run_binV {tk : TK} {op : BinOp} {t : TypeId} {ox oy : Operand} {x y z : V} {u v : Value} (hx : rel F μ x u) (hy : rel F μ y v) (h : binV tk op x y = some z) (ht : tk.fits P t) :
    (do eqGuard op t ox oy u v; binOp op t u v : Sem Value).run P w = .ok z.val w ∧ z.flatCell = true := by
  unfold binV at h
  split at h
  · simp only [rel] at hx hy
    subst hx hy
    simp only [Sem.run_bind, eqGuard_plain (a := .int _ _) (by simp) (by simp), Result.andThen_ok]
    split at h
    · exact run_shiftOp h
    · split at h
      · rename_i hk; subst hk; exact run_intOp h
      · cases h
  · simp only [rel] at hx hy
    subst hx hy
    simp only [Sem.run_bind, eqGuard_plain (a := .string _) (by simp) (by simp), Result.andThen_ok]
    exact run_strOp h
  · cases h
  · simp only [rel] at hx hy
    subst hx hy
    simp only [Sem.run_bind, eqGuard_plain (a := .bool _) (by simp) (by simp), Result.andThen_ok]
    simp only [TK.fits] at ht
    cases op <;> simp only [boolOp, reduceCtorEq] at h <;> cases h <;>
      exact ⟨by simp [binOp, run_equal_bool ht, V.val], rfl⟩
  · cases h
  · split at h
    · rename_i r hr
      cases h
      obtain ⟨h1, h2, h3, h4, h5, h6, h7⟩ := run_isNil (P := P) (w := w) (t := t) hx hy hr ht 9999
      have h1 : (Op.equal t u v).run P w = .ok r w := h1
      simp only [Sem.run_bind, eqGuard_plain h2 h3, Result.andThen_ok]
      refine ⟨?_, rfl⟩
      cases u <;> first | exact absurd rfl (h4 _ _) | exact absurd rfl (h5 _) | exact absurd rfl (h6 _ _) | exact absurd rfl (h7 _ _ _) | (simp [binOp, h1, V.val])
    · rename_i r hr
      cases h
      obtain ⟨h1, h2, h3, h4, h5, h6, h7⟩ := run_isNil (P := P) (w := w) (t := t) hx hy hr ht 9999
      have h1 : (Op.equal t u v).run P w = .ok r w := h1
      simp only [Sem.run_bind, eqGuard_plain h2 h3, Result.andThen_ok]
      refine ⟨?_, rfl⟩
      cases u <;> first | exact absurd rfl (h4 _ _) | exact absurd rfl (h5 _) | exact absurd rfl (h6 _ _) | exact absurd rfl (h7 _ _ _) | (simp [binOp, h1, V.val])
    · cases h

end
end Go.Ev
