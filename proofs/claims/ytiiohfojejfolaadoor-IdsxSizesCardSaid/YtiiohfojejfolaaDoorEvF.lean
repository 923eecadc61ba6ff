/-
  The evaluator, part F. Regions: in the order of the text, and in any order. Code: sequences, branches, blocks, loops. A function's contract from its body.
-/
import Derived.Test.YtiiohfojejfolaaDoorEvE
import Derived.LoopN
set_option linter.unusedVariables false
set_option linter.unusedSimpArgs false
namespace Go.Ev
open Go

theorem rowOp_build {acc : List Nat} {dst : Option Nat} {n n' : Nat} {agg agg' : Bool} {l l' : List AOpd} (h : rowOp acc dst n agg l = .buildSlice n' agg' l') : n = n' ∧ agg = agg' ∧ l = l' := by
  unfold rowOp at h
  split at h
  · split at h
    · cases h
    · split at h
      · cases h
      · cases h; exact ⟨rfl, rfl, rfl⟩
  · cases h; exact ⟨rfl, rfl, rfl⟩

theorem StRel.eqv {n : Nat} {F : Frz} {μ : Mu} {s s' : St} {a : Go.Act} {w : World} (h : StRel n F μ s a w) (he : s.eqv s') : StRel n F μ s' a w where
  inv := h.inv.congr fun k => (he.2 k).symm
  tm := fun i => by rw [← he.1 i]; exact h.tm i
  dn := h.dn
  sz := h.sz

/-- Which operations lie ahead, by the bits. -/
def bit (A : List Nat) (j k : Nat) : Bool := decide (k < j) && (A.getD j 0).testBit k

/-- The bits are grounded in the edges; edges lead back; pairs that are not ordered are apart. -/
def drawnOk (ops : Array Oper) (aops : List AOper) : Bool :=
  let A := ahead ops
  (List.range ops.size).all fun j => match ops[j]?, aops[j]? with
    | some o, some ao =>
      (o.after.toList.all fun e => !Region.binds .any e || decide (e.on < j)) &&
      (List.range j).all fun k =>
        if (A.getD j 0).testBit k then o.after.toList.any fun e => Region.binds .any e && (e.on == k || bit A e.on k)
        else match aops[k]? with | some ak => ak.apart ao | none => false
    | _, _ => false

structure DrawnOk (ops : Array Oper) (aops : List AOper) : Prop where
  back : ∀ j o, ops[j]? = some o → ∀ e ∈ o.after, Region.binds .any e = true → e.on < j
  ground : ∀ j k o, ops[j]? = some o → bit (ahead ops) j k = true → ∃ e ∈ o.after, Region.binds .any e = true ∧ (e.on = k ∨ bit (ahead ops) e.on k = true)
  apart : ∀ j k ao ak, j < ops.size → k < j → aops[j]? = some ao → aops[k]? = some ak → bit (ahead ops) j k = false → ak.apart ao = true

theorem drawnOk_spec {ops : Array Oper} {aops : List AOper} (h : drawnOk ops aops = true) : DrawnOk ops aops := by
  have main : ∀ j, j < ops.size → ∃ o ao, ops[j]? = some o ∧ aops[j]? = some ao ∧ (∀ e ∈ o.after, Region.binds .any e = true → e.on < j) ∧
      ∀ k, k < j → if ((ahead ops).getD j 0).testBit k = true then ∃ e ∈ o.after, Region.binds .any e = true ∧ (e.on = k ∨ bit (ahead ops) e.on k = true) else ∃ ak, aops[k]? = some ak ∧ ak.apart ao = true := by
    intro j hj
    have := List.all_eq_true.1 h j (List.mem_range.2 hj)
    split at this
    · rename_i o ao ho hao
      simp only [Bool.and_eq_true] at this
      obtain ⟨h1, h2⟩ := this
      refine ⟨o, ao, ho, hao, fun e he hb => ?_, fun k hk => ?_⟩
      · have := List.all_eq_true.1 h1 e (by simpa using he)
        simpa [hb] using this
      · have := List.all_eq_true.1 h2 k (List.mem_range.2 hk)
        split at this
        · rename_i hbit
          rw [if_pos hbit]
          obtain ⟨e, he, hq⟩ := List.any_eq_true.1 this
          simp only [Bool.and_eq_true, Bool.or_eq_true, beq_iff_eq] at hq
          exact ⟨e, by simpa using he, hq.1, hq.2⟩
        · rename_i hbit
          rw [if_neg hbit]
          split at this
          · rename_i ak hak; exact ⟨ak, hak, this⟩
          · cases this
    · cases this
  have lt {j : Nat} {o : Oper} (ho : ops[j]? = some o) : j < ops.size := (Array.getElem?_eq_some_iff.1 ho).1
  refine ⟨fun j o ho e he hb => ?_, fun j k o ho hbit => ?_, fun j k ao ak hj hk hao hak hbit => ?_⟩
  · obtain ⟨o', ao, ho', _, h1, _⟩ := main j (lt ho)
    rw [ho] at ho'; cases ho'
    exact h1 e he hb
  · obtain ⟨o', ao, ho', _, _, h2⟩ := main j (lt ho)
    rw [ho] at ho'; cases ho'
    simp only [bit, Bool.and_eq_true, decide_eq_true_eq] at hbit
    have := h2 k hbit.1
    rw [if_pos hbit.2] at this
    exact this
  · obtain ⟨o, ao', ho, hao', _, h2⟩ := main j hj
    rw [hao] at hao'; cases hao'
    have := h2 k hk
    simp only [bit, hk, decide_true, Bool.true_and] at hbit
    rw [hbit] at this
    simp only [Bool.false_eq_true, if_false] at this
    obtain ⟨ak', hak', hap⟩ := this
    rw [hak] at hak'; cases hak'
    exact hap

theorem freeBits_bit {ops : Array Oper} {i j : Nat} (hij : i < j) (hj : j < ops.size) (hb : bit (ahead ops) j i = false) : ((freeBits ops).getD j 0).testBit i = true := by
  simp only [bit, hij, decide_true, Bool.true_and] at hb
  have : (freeBits ops).getD j 0 = (2 ^ j - 1) ^^^ ((ahead ops).getD j 0 &&& (2 ^ j - 1)) := by
    simp only [freeBits, List.getD, List.getElem?_map, List.getElem?_range hj, Option.map_some, Option.getD_some]
    rfl
  rw [this, Nat.testBit_xor, Nat.testBit_and, Nat.testBit_two_pow_sub_one, hb]
  simp [hij]

theorem mem_touch {x : List Key × List Key} (hx : (x.1.isEmpty && x.2.isEmpty) = false) : ∀ {logs : List (List Key × List Key)} {k i : Nat}, logs[i]? = some x → (k + i, x) ∈ touch logs k
  | [], _, _, h => by simp at h
  | (rd, wr) :: r, k, 0, h => by
    simp at h
    subst h
    simp only [touch, hx]
    simp
  | (rd, wr) :: r, k, i + 1, h => by
    simp at h
    have := mem_touch hx (k := k + 1) h
    rw [Nat.add_right_comm, Nat.add_assoc] at this
    simp only [touch]
    split
    · exact this
    · exact List.mem_cons_of_mem _ this

theorem okPairs_spec {logs : List (List Key × List Key)} {free : List Nat} (h : okPairs logs free = true) {i j : Nat} (hm : (free.getD j 0).testBit i = true) {x y : List Key × List Key}
    (hx : logs[i]? = some x) (hy : logs[j]? = some y) : compat x y = true := by
  by_cases ex : (x.1.isEmpty && x.2.isEmpty) = true
  · simp only [Bool.and_eq_true, List.isEmpty_iff] at ex
    simp [compat, apartKeys, ex.1, ex.2]
  · by_cases ey : (y.1.isEmpty && y.2.isEmpty) = true
    · simp only [Bool.and_eq_true, List.isEmpty_iff] at ey
      simp [compat, apartKeys, ey.1, ey.2]
    · have mx := mem_touch (by simpa using ex) (k := 0) hx
      have my := mem_touch (by simpa using ey) (k := 0) hy
      rw [Nat.zero_add] at mx my
      have := List.all_eq_true.1 (List.all_eq_true.1 h _ my) _ mx
      simp only [hm, Bool.not_true, Bool.false_or] at this
      exact this

section
variable {P : Program} {w : World} {F : Frz} {μ : Mu} {G : Globals} {C : FuncId → Option Contract} {acc : List Nat} {ops : Array Oper}

theorem prepOpers_get : ∀ {l : List Oper} {al : List AOper}, prepOpers P G acc ops l = some al → al.length = l.length ∧ ∀ (i : Nat) (o : Oper), l[i]? = some o → ∃ ao, al[i]? = some ao ∧ prepOper P G acc ops o = some ao
  | [], al, h => by
    simp only [prepOpers] at h
    cases h
    exact ⟨rfl, fun i o ho => by simp at ho⟩
  | o :: r, al, h => by
    simp only [prepOpers] at h
    split at h <;> first | (cases h; done) | skip
    rename_i ao ar ho hr
    cases h
    obtain ⟨h1, h2⟩ := prepOpers_get hr
    refine ⟨by simp [h1], fun i o' hi => ?_⟩
    cases i with
    | zero => simp at hi; subst hi; exact ⟨ao, by simp, ho⟩
    | succ i => simp at hi ⊢; exact h2 i o' hi

/-- A row that is built: the block, and what is in it. -/
theorem run_buildRow {w : World} {t e : TypeId} {len n : Nat} {xs : List V} {parts : Array (Nat × Value)} (hu : P.underlying t = some (.slice e)) (hn : sizeT P e = some n) (hz : (zeroSize P e).isSome = true) (hb : len * n ≤ 16777216)
    (hl : xs.length = len) (hx : ∀ x ∈ xs, x.cellsOf.length = n ∧ x.cellsOf.all V.isCell = true) (hp : partsRel F noMu (fun i => some (i * n, n)) (rowParts n 0 xs) parts.toList) :
    ∃ cells : Array Value, (Instr.buildSlice t len parts).run P w = .ok (.slice (some ⟨w.heap.size, 0, none⟩) len len) { w with heap := w.heap.push (.cells cells e) } ∧
      rels F noMu (xs.flatMap V.cellsOf) cells.toList ∧ ∀ u ∈ cells.toList, u.oneCell' = true := by
  obtain ⟨m, hm⟩ := Option.isSome_iff_exists.1 hz
  obtain ⟨i, z, hi, hiz, _⟩ := zeroSize_spec hm
  have h24 : ¬ (len * n > 2 ^ 24) := by omega
  obtain ⟨row, hrl, hrun⟩ : ∃ row : Array Value, row.size = len * n ∧ (Instr.buildSlice t len parts).run P w = (match Instr.fill (fun i => some (i * n, n)) row parts.toList with
      | some cells => (do pure (.slice (some (← newRow e cells)) len len) : Sem Value)
      | none => stuck "buildSlice: a part of the wrong size").run P w := by
    by_cases h : len * n = 0
    · refine ⟨(Array.range (len * n)).map fun x => (#[] : Array Value)[x % (#[] : Array Value).size]!, by simp, ?_⟩
      simp only [Instr.buildSlice, Sem.run_bind, run_underlying hu, Result.andThen_ok, run_sizeOf' hn, h24, if_false, if_pos h, Sem.run_pure]
      generalize Instr.fill _ _ parts.toList = q
      cases q <;> rfl
    · refine ⟨(Array.range (len * n)).map fun x => z.cells[x % z.cells.size]!, by simp, ?_⟩
      simp only [Instr.buildSlice, Sem.run_bind, run_underlying hu, Result.andThen_ok, run_sizeOf' hn, h24, if_false, if_neg h, Sem.run_pure, zeroValue, typeInfo, run_program, hi, hiz]
      generalize Instr.fill _ _ parts.toList = q
      cases q <;> rfl
  have hzs : rels F noMu (List.replicate (len * n) V.undef) row.toList := by
    rw [rels_iff]
    refine ⟨by simp [hrl], fun i v u hv _ => ?_⟩
    rw [List.getElem?_replicate] at hv
    split at hv
    · cases hv; simp [rel]
    · cases hv
  have hfv := fillV_row (size := n) xs 0 (List.replicate (len * n) V.undef) (by simp [hl]) hx
  simp only [Nat.zero_mul, List.take_zero, List.nil_append] at hfv
  obtain ⟨cells', hf, hr⟩ := run_fill hzs hp hfv
  have hcell : ∀ u ∈ cells'.toList, u.oneCell' = true := oneCell_of_rels hr (by
    rw [List.all_eq_true]
    intro y hy
    obtain ⟨x, hx', hyx⟩ := List.mem_flatMap.1 hy
    have := (hx x hx').2
    rw [List.all_eq_true] at this
    exact this y hyx)
  refine ⟨cells', ?_, hr, hcell⟩
  rw [hrun, hf]
  simp only [newRow, Sem.run_bind, run_newObj, Result.andThen_ok, Sem.run_pure]

/-- A row of bytes that is built and marked: the two operations' runs, as one. -/
theorem good_lit {w : World} {σ : Store} {tm : Tm} {a : Go.Act} (hI : Inv F μ σ w) (hG : ∀ g cs, G.get g = some cs → frz F g 0 cs) (ht : TmRel F μ tm a.tmps) {o1 o2 : Oper} {l : List AOper} (h : litOper P G acc o1 o2 = some l) :
    ∃ j n agg ps, l = [⟨some j, .mv (.c .undef), none⟩, ⟨o2.dst, .buildSlice n agg ps, none⟩] ∧ o1.dst = some j ∧ o1.guard = none ∧ o2.guard = none ∧
      ∀ dst an rd, (act C dst (AOpd.ev tm) (.buildSlice n agg ps)).run σ [] = some (an, rd) →
        ∃ v w1 w2 F', (execOp a.eval o1).run P w = .ok (.value v) w1 ∧ (∀ a' : Go.Act, a'.eval (.tmp j) = v → (execOp a'.eval o2).run P w1 = .ok (.value v) w2) ∧ Post F μ w F' μ (σ.puts an.up) w2 ∧ rel F' μ an.v v := by
  obtain ⟨d1, op1, ty1, pos1, after1, g1⟩ := o1
  obtain ⟨d2, op2, ty2, pos2, after2, g2⟩ := o2
  unfold litOper at h
  simp only at h
  split at h <;> first | (cases h; done) | skip
  rename_i t len parts j s d i
  split at h <;> first | (cases h; done) | skip
  rename_i hc
  obtain ⟨rfl, rfl, rfl⟩ := hc
  split at h <;> first | (cases h; done) | skip
  rename_i e he
  split at h <;> first | (cases h; done) | skip
  rename_i n agg ps hbyte hop
  cases h
  refine ⟨i, n, agg, ps, rfl, rfl, rfl, rfl, fun dst an rd hr => ?_⟩
  have hu : P.underlying t = some (.slice e) := by
    unfold elemT at he
    split at he
    · rename_i hh; cases he; exact hh
    · cases he
  simp only [prepOp, he] at hop
  split at hop <;> first | (cases hop; done) | skip
  rename_i n' hn
  split at hop <;> first | (cases hop; done) | skip
  rename_i hc
  obtain ⟨c1, c2, c3, c4⟩ := hc
  simp only [Option.map_eq_some_iff] at hop
  obtain ⟨l, hl, hq⟩ := hop
  obtain ⟨rfl, rfl, rfl⟩ := rowOp_build hq
  simp only [act] at hr
  split at hr
  · rename_i xs hs
    have := just_run hr; subst this
    obtain ⟨q1, q2⟩ := prepRow_rel (a := a) hG ht hl hs
    have hx := (settles_spec hs).1
    obtain ⟨cells, hrun, hrels, hcell⟩ := run_buildRow (P := P) (w := w) (parts := parts.map fun (i, x) => (i, a.eval x)) hu hn c4 c3 (by rw [q1]; simpa using c1) hx (by simpa using q2)
    have hpost := Post.newRow (w' := { w with heap := w.heap.push (.cells cells e (cells.size, cells.size + 1)) }) hI cells.toList [] e (cells.size, cells.size + 1) hcell (by simp) rfl rfl
    refine ⟨.slice (some ⟨w.heap.size, 0, none⟩) len len, { w with heap := w.heap.push (.cells cells e) }, { w with heap := w.heap.push (.cells cells e (cells.size, cells.size + 1)) }, _, ?_, fun a' ha' => ?_, hpost, ?_⟩
    · simp only [execOp, Sem.run_bind, hrun, Result.andThen_ok, Sem.run_pure]
    · have hm : (markStringish ⟨w.heap.size, 0, none⟩).run P { w with heap := w.heap.push (.cells cells e) } = .ok () { w with heap := w.heap.push (.cells cells e (cells.size, cells.size + 1)) } := by
        unfold markStringish
        simp only [Sem.run_bind, run_shape, Result.andThen_ok, World.shape?, Array.getElem?_push_size, run_freeze, World.freeze]
        simp only [Nat.one_ne_zero, if_false, beq_self_eq_true, if_true]
        congr 1
        congr 1
        apply Array.ext_getElem?
        intro j
        simp only [Array.getElem?_modify, Array.getElem?_push]
        by_cases hj : w.heap.size = j
        · subst hj; simp
        · simp [hj]
          have : ¬ j = w.heap.size := fun h => hj h.symm
          simp [this]
      simp only [execOp, Sem.run_bind, ha', convert, run_underlying hu, Result.andThen_ok, beq_self_eq_true, run_underlying hbyte, Sem.run_pure, hm]
    · simp only [rel]
      have hlen : xs.length = len := by rw [q1]; simpa using c1
      refine ⟨some ⟨w.heap.size, 0, none⟩, len, by rw [hlen], ⟨.inr rfl, ?_⟩, by simp [ownRel, hlen]⟩
      rw [frzE_iff]
      exact ⟨fun x hx' => (hx x hx').1, frz_put hpost.2.1.le hrels⟩
  · exact (fail_run hr).elim

/-- A region in the order of the text. -/
theorem list_wp {n : Nat} (hS : Sound P G C) (hP : ∀ F : Frz, (∀ g cs, G.get g = some cs → frz F g 0 cs) → ∀ F', F.le F' → ∀ g cs, G.get g = some cs → frz F' g 0 cs) {Q : Exit → Go.Act → World → Prop} :
    ∀ {l : List Oper} {al : List AOper} {s t : St} {a : Go.Act} {w : World} {F : Frz} {μ : Mu}, prepSeq P G acc ops l = some al → runOps C s al = some t → (∀ o ∈ l, ∀ d, o.dst = some d → d < n) → StRel n F μ s a w → (∀ g cs, G.get g = some cs → frz F g 0 cs) →
    (∀ F' μ' a' w', Ext μ F w μ' F' w' → μ.le μ' → StRel n F' μ' t a' w' → Q .normal a' w') → wpList P ops Q l a w
  | [], al, s, t, a, w, F, μ, hp, hr, hn, hR, hG, hQ => by
    simp only [prepSeq] at hp
    cases hp
    simp only [runOps] at hr
    cases hr
    exact hQ F μ a w (Ext.refl ..) (Mu.le_refl _) hR
  | [o], al, s, t, a, w, F, μ, hp, hr, hn, hR, hG, hQ => by
    simp only [prepSeq] at hp
    split at hp <;> first | (cases hp; done) | skip
    rename_i ao ho
    cases hp
    simp only [runOps] at hr
    split at hr <;> first | (cases hr; done) | skip
    rename_i s' rd wr hs
    cases hr
    have := op_wp hS (F0 := F) ho hs hR (hn o (by simp)) hG (K := wpList P ops Q []) (Q := Q) fun v w' F' μ' hx hm hR' => hQ F' μ' _ w' hx hm hR'
    simp only [wpList] at this ⊢
    split
    · rename_i hw; rw [if_pos hw] at this; exact .inl this
    · rename_i hw; rw [if_neg hw] at this; exact this
  | o1 :: o2 :: r, al, s, t, a, w, F, μ, hp, hr, hn, hR, hG, hQ => by
    simp only [prepSeq] at hp
    split at hp
    · rename_i l hl
      split at hp <;> first | (cases hp; done) | skip
      rename_i ar har
      cases hp
      have htm : ∀ j, TmRel F μ ((j, V.undef) :: s.tm) a.tmps := fun j i => by
        rw [Tm.at_cons]
        split
        · simp [rel]
        · exact hR.tm i
      obtain ⟨j, n1, agg, ps, rfl, hd1, hg1, hg2, hgood⟩ := good_lit (C := C) hR.inv hG (htm 0) hl
      obtain ⟨j', n1', agg', ps', he, hd1', _, _, hgood⟩ := good_lit (C := C) hR.inv hG (htm j) hl
      obtain rfl : j = j' := Option.some.inj (hd1.symm.trans hd1')
      simp only [List.cons.injEq, AOper.mk.injEq, AOp.buildSlice.injEq, true_and, and_true] at he
      obtain ⟨rfl, rfl, rfl⟩ := he
      simp only [List.cons_append, List.nil_append, runOps] at hr
      have hs1 : step C s ⟨some j, .mv (.c .undef), none⟩ = some (⟨(j, V.undef) :: s.tm, s.st⟩, [], []) := rfl
      rw [hs1] at hr
      simp only at hr
      split at hr <;> first | (cases hr; done) | skip
      rename_i s' rd wr hs
      rw [step_eq] at hs
      simp only [stepA] at hs
      split at hs <;> first | (cases hs; done) | skip
      rename_i an rdd hact
      cases hs
      obtain ⟨v, w1, w2, F', hrun1, hrun2, hpost, hrel⟩ := hgood _ _ _ hact
      have hj : j < n := hn o1 (by simp) j hd1
      have hsz := hR.sz
      have hev : (a.put o1.dst v).eval (.tmp j) = v := by
        rw [hd1]
        simp only [Go.Act.put, Go.Act.eval]
        simp [show j < a.tmps.size by omega]
      have hR2 : StRel n F' μ ⟨AOper.put ⟨o2.dst, .buildSlice n1 agg ps, none⟩ ((j, V.undef) :: s.tm) an.v, s.st.puts an.up⟩ ((a.put o1.dst v).put o2.dst v) w2 := by
        refine ⟨hpost.1, ?_, put_defers (put_defers hR.dn), by rw [put_size, put_size]; exact hR.sz⟩
        refine tmRel_put rfl (fun d h => by rw [put_size]; exact Nat.lt_of_lt_of_le (hn o2 (by simp) d h) hR.sz) ?_ hrel
        have := tmRel_put (F := F) (μ := μ) (o := ⟨some j, .mv (.c .undef), none⟩) (dst := some j) (x := V.undef) (v := v) (a := a) rfl (fun d h => by cases h; omega) hR.tm (by simp [rel])
        rw [hd1]
        exact this.mono hpost.2.1.le hpost.2.2
      simp only [wpList, Region.wanted, hg1, hg2, if_true]
      refine .inl ?_
      unfold Oper.wp
      rw [hrun1]
      refine .inl ?_
      show Oper.wp P o2 (a.put o1.dst v) w1 _ Q
      unfold Oper.wp
      rw [hrun2 _ hev]
      exact list_wp hS hP har hr (fun o' ho' => hn o' (by simp [ho'])) hR2 (hP F hG F' hpost.2.1.le) fun F'' μ'' a'' w'' hx' hm' hR'' => hQ F'' μ'' a'' w'' (hpost.2.1.trans hx') hm' hR''
    · split at hp <;> first | (cases hp; done) | skip
      rename_i ao ar ho har
      cases hp
      simp only [runOps] at hr
      split at hr <;> first | (cases hr; done) | skip
      rename_i s' rd wr hs
      have := op_wp hS (F0 := F) ho hs hR (hn o1 (by simp)) hG (K := wpList P ops Q (o2 :: r)) (Q := Q) fun v w' F' μ' hx hm hR' =>
        list_wp hS hP har hr (fun o' ho' => hn o' (by simp only [List.mem_cons] at ho' ⊢; exact .inr ho')) hR' (hP F hG F' hx.le) fun F'' μ'' a'' w'' hx' hm' hR'' => hQ F'' μ'' a'' w'' (hx.trans hx') (Mu.le_trans hm hm') hR''
      rw [wpList]
      split
      · rename_i hw; rw [if_pos hw] at this; exact .inl this
      · rename_i hw; rw [if_neg hw] at this; exact this

theorem getD_set_self {listed : Array Bool} {i : Nat} (d : Bool) (h : listed.getD i true = false) : (listed.setIfInBounds i true).getD i d = true := by
  have hlt : i < listed.size := by
    rcases Nat.lt_or_ge i listed.size with h' | h'
    · exact h'
    · simp [Array.getElem?_eq_none h'] at h
  simp [hlt]

theorem getD_flip {listed : Array Bool} {i : Nat} (h : listed.getD i true = false) : listed.getD i false = false := by
  have hlt : i < listed.size := by
    rcases Nat.lt_or_ge i listed.size with h' | h'
    · exact h'
    · simp [Array.getElem?_eq_none h'] at h
  simpa [hlt] using h

theorem any_wp {n : Nat} (hS : Sound P G C) (hP : ∀ F : Frz, (∀ g cs, G.get g = some cs → frz F g 0 cs) → ∀ F', F.le F' → ∀ g cs, G.get g = some cs → frz F' g 0 cs) {Q : Exit → Go.Act → World → Prop}
    {aops : List AOper} (hp : ∀ (i : Nat) (o : Oper), ops[i]? = some o → ∃ ao, aops[i]? = some ao ∧ prepOper P G acc ops o = some ao) (hD : DrawnOk ops aops) (hn : ∀ (i : Nat) (o : Oper), ops[i]? = some o → ∀ d, o.dst = some d → d < n) :
    ∀ (fuel : Nat) {listed : Array Bool} {L : List Item} {s t : St} {a : Go.Act} {w : World} {F : Frz} {μ : Mu},
      Chain C s L t → L.length = fuel → listed.size = ops.size → (∀ x ∈ L, aops[x.idx]? = some x.op) → L.Pairwise (fun x y => x.idx < y.idx) →
      (∀ i, (∃ x ∈ L, x.idx = i) ↔ i < ops.size ∧ listed.getD i true = false) →
      (∀ j k, listed.getD j false = true → bit (ahead ops) j k = true → listed.getD k false = true) →
      L.Pairwise (fun x y => bit (ahead ops) y.idx x.idx = true ∨ x.fits y) →
      StRel n F μ s a w → (∀ g cs, G.get g = some cs → frz F g 0 cs) →
      (∀ F' μ' a' w', Ext μ F w μ' F' w' → μ.le μ' → StRel n F' μ' t a' w' → Q .normal a' w') → wpAny P .any ops Q fuel listed a w
  | 0, listed, L, s, t, a, w, F, μ, hC, hl, hsz, hop, hord, hmem, hcl, hfit, hR, hG, hQ => by
    have : L = [] := List.length_eq_zero_iff.1 hl
    subst this
    refine ⟨?_, hQ F μ a w (Ext.refl ..) (Mu.le_refl _) (hR.eqv hC)⟩
    rw [List.eq_nil_iff_forall_not_mem]
    intro j hj
    obtain ⟨h0, o, ho, _⟩ := mem_ready.1 hj
    obtain ⟨x, hx, _⟩ := (hmem j).2 ⟨(Array.getElem?_eq_some_iff.1 ho).1, h0⟩
    simp at hx
  | fuel + 1, listed, L, s, t, a, w, F, μ, hC, hl, hsz, hop, hord, hmem, hcl, hfit, hR, hG, hQ => by
    refine ⟨fun hnil => ?_, fun i hi => ?_⟩
    · exfalso
      cases L with
      | nil => simp at hl
      | cons x r =>
        obtain ⟨hlt, hun⟩ := (hmem x.idx).1 ⟨x, by simp, rfl⟩
        have : x.idx ∈ Region.ready .any ops listed := by
          refine mem_ready.2 ⟨hun, ops[x.idx], by simp [hlt], fun e he hb => ?_⟩
          have hback := hD.back x.idx _ (by simp [hlt]) e he hb
          cases hq : listed.getD e.on false with
          | true => rfl
          | false =>
            have : listed.getD e.on true = false := by
              have : e.on < listed.size := by omega
              simpa [this] using hq
            obtain ⟨y, hy, hyi⟩ := (hmem e.on).2 ⟨by omega, this⟩
            rcases List.mem_cons.1 hy with rfl | hy
            · omega
            · have := (List.pairwise_cons.1 hord).1 y hy
              omega
        rw [hnil] at this
        cases this
    · obtain ⟨hun, o, ho, hall⟩ := mem_ready.1 hi
      have hlt : i < ops.size := (Array.getElem?_eq_some_iff.1 ho).1
      obtain ⟨x, hx, hxi⟩ := (hmem i).2 ⟨hlt, hun⟩
      obtain ⟨A, B, rfl⟩ := List.append_of_mem hx
      have hfree : ∀ y ∈ A, y.fits x := fun y hy => by
        have := (List.pairwise_append.1 hfit).2.2 y hy x (by simp)
        refine this.resolve_left fun hb => ?_
        have hyun := ((hmem y.idx).1 ⟨y, by simp [hy], rfl⟩).2
        rw [hxi] at hb
        obtain ⟨e, he, hbd, hq⟩ := hD.ground i y.idx o ho hb
        have hl := hall e he hbd
        have : listed.getD y.idx false = true := by
          rcases hq with hq | hq
          · rw [← hq]; exact hl
          · exact hcl _ _ hl hq
        rw [getD_flip hyun] at this
        cases this
      obtain ⟨he, hC'⟩ := Chain.pull hC hfree
      have hstep : step C s x.op = some (s.go x.op x.an, x.rd, x.an.up.map (·.1)) := by rw [step_eff, he]; rfl
      obtain ⟨ao, hao, hpo⟩ := hp i o ho
      have hxo := hop x (by simp)
      rw [hxi, hao] at hxo
      cases hxo
      have hne : ∀ y ∈ A ++ B, y.idx ≠ i := fun y hy => by
        rw [← hxi]
        rcases List.mem_append.1 hy with hy | hy
        · have := (List.pairwise_append.1 hord).2.2 y hy x (by simp); omega
        · have := (List.pairwise_cons.1 (List.pairwise_append.1 hord).2.1).1 y hy; omega
      have hsub : (A ++ B).Sublist (A ++ x :: B) := List.Sublist.append_left (List.sublist_cons_self x B) A
      have := op_wp hS (F0 := F) hpo hstep hR (hn i o ho) hG (K := wpAny P .any ops Q fuel (listed.setIfInBounds i true)) (Q := Q) fun v w' F' μ' hx' hm hR' =>
        any_wp hS hP hp hD hn fuel hC' (by simp at hl ⊢; omega) (by simpa using hsz) (fun y hy => hop y (hsub.subset hy)) (hord.sublist hsub) (fun j => by
          constructor
          · rintro ⟨y, hy, rfl⟩
            obtain ⟨h1, h2⟩ := (hmem y.idx).1 ⟨y, hsub.subset hy, rfl⟩
            exact ⟨h1, by rw [getD_set_ne true (Ne.symm (hne y hy))]; exact h2⟩
          · rintro ⟨h1, h2⟩
            by_cases hji : i = j
            · subst hji
              rw [getD_set_self true hun] at h2
              cases h2
            · rw [getD_set_ne true hji] at h2
              obtain ⟨y, hy, hyj⟩ := (hmem j).2 ⟨h1, h2⟩
              refine ⟨y, ?_, hyj⟩
              rcases List.mem_append.1 hy with hy | hy
              · exact List.mem_append_left _ hy
              · rcases List.mem_cons.1 hy with rfl | hy
                · omega
                · exact List.mem_append_right _ hy) (fun j k hj hb => by
          by_cases hji : i = j
          · subst hji
            obtain ⟨e, he, hbd, hq⟩ := hD.ground i k o ho hb
            have hl := hall e he hbd
            refine getD_set_true ?_
            rcases hq with hq | hq
            · rw [← hq]; exact hl
            · exact hcl _ _ hl hq
          · rw [getD_set_ne false hji] at hj
            exact getD_set_true (hcl j k hj hb)) (hfit.sublist hsub) hR' (hP F hG F' hx'.le) fun F'' μ'' a'' w'' hx'' hm'' hR'' => hQ F'' μ'' a'' w'' (hx'.trans hx'') (Mu.le_trans hm hm'') hR''
      unfold wpOp
      rw [ho]
      simp only
      split
      · rename_i hw; rw [if_pos hw] at this; exact .inl this
      · rename_i hw; rw [if_neg hw] at this; exact this

end
end Go.Ev

namespace Go.Ev
open Go

/-! ### keys that are let go -/
section
variable {F : Frz} {μ : Mu} {p : Key → Bool}

def Mu.only (μ : Mu) (p : Key → Bool) : Mu := fun k => if p k then μ k else none

mutual
theorem rel_only : ∀ (v : V) (u : Value), rel F μ v u → rel F (μ.only p) (v.only p) u
  | .undef, _, _ => by simp [V.only, rel]
  | .bool _, _, h => by simpa [V.only, rel] using h
  | .int .., _, h => by simpa [V.only, rel] using h
  | .str _, _, h => by simpa [V.only, rel] using h
  | .nil, _, h => by simpa [V.only, rel] using h
  | .ptr k o, u, h => by
    simp only [V.only]
    split
    · rename_i hk
      simp only [rel, Mu.only, hk, if_true] at h ⊢
      exact h
    · simp [rel]
  | .elem cs, _, h => by simpa [V.only, rel] using h
  | .slc e xs own, u, h => by
    cases own with
    | none => simpa [V.only, rel, ownRel] using h
    | nn => simpa only [V.only, rel, ownRel] using h
    | tight => simpa [V.only, rel, ownRel] using h
    | tok k s =>
      simp only [rel] at h
      obtain ⟨base, cap, hu, hb, ho⟩ := h
      simp only [V.only, rel]
      refine ⟨base, cap, hu, hb, ?_⟩
      split
      · rename_i hk
        simp only [ownRel, Mu.only, hk, if_true] at ho ⊢
        exact ho
      · exact ho.1
  | .nilslc, _, h => by simpa [V.only, rel] using h
  | .view k e o l c, u, h => by
    simp only [V.only]
    split
    · rename_i hk
      simp only [rel, Mu.only, hk, if_true] at h ⊢
      exact h
    · simp [rel]
  | .rowv k e o l, u, h => by
    simp only [V.only]
    split
    · rename_i hk
      simp only [rel, Mu.only, hk, if_true] at h ⊢
      exact h
    · simp [rel]
  | .rptr k o, u, h => by
    simp only [V.only]
    split
    · rename_i hk
      simp only [rel, Mu.only, hk, if_true] at h ⊢
      exact h
    · simp [rel]
  | .map k, u, h => by
    simp only [V.only]
    split
    · rename_i hk
      simp only [rel, Mu.only, hk, if_true] at h ⊢
      exact h
    · simp [rel]
  | .nilmap, _, h => by simpa [V.only, rel] using h
  | .func fn f c, u, h => by
    simp only [V.only, rel] at h ⊢
    obtain ⟨f', c', hu, h1, h2⟩ := h
    exact ⟨f', c', hu, rels_only f f' h1, rels_only c c' h2⟩
  | .nilfunc, _, h => by simpa [V.only, rel] using h
  | .iface t x, u, h => by
    simp only [V.only, rel] at h ⊢
    obtain ⟨u', hu, h1⟩ := h
    exact ⟨u', hu, rel_only x u' h1⟩
  | .nilIface, _, h => by simpa [V.only, rel] using h
  | .agg cs, u, h => by
    simp only [V.only, rel] at h ⊢
    obtain ⟨us, hu, h1⟩ := h
    exact ⟨us, hu, rels_only cs us h1⟩
  | .tuple vs, u, h => by
    simp only [V.only, rel] at h ⊢
    obtain ⟨us, hu, h1⟩ := h
    exact ⟨us, hu, rels_only vs us h1⟩
theorem rels_only : ∀ (vs : List V) (us : List Value), rels F μ vs us → rels F (μ.only p) (V.onlys p vs) us
  | [], _, h => by simpa [V.onlys, rels] using h
  | v :: r, us, h => by
    simp only [V.onlys, rels] at h ⊢
    obtain ⟨u, us', hu, h1, h2⟩ := h
    exact ⟨u, us', hu, rel_only v u h1, rels_only r us' h2⟩
end

theorem mapRel_only : ∀ {es : List (V × V)} {l : List MapEntry}, mapRel F μ es l → mapRel F (μ.only p) (es.map fun (k, v) => (k, v.only p)) l
  | [], _, h => h
  | (k, v) :: r, _, h => by
    obtain ⟨e, es', hl, h1, h2, hr⟩ := h
    exact ⟨e, es', hl, h1, rel_only v _ h2, mapRel_only hr⟩

theorem onlys_length (p : Key → Bool) : ∀ (cs : List V), (V.onlys p cs).length = cs.length
  | [] => rfl
  | c :: r => by simp [V.onlys, onlys_length p r]

theorem objRel_only {w : World} {o : Obj} {h : Hd} (hr : objRel F μ w o h) : objRel F (μ.only p) w (o.only p) h := by
  cases o with
  | cells cs =>
    cases h with
    | blk b t =>
      cases t with
      | none => obtain ⟨us, ty, hw, hc, hn⟩ := hr; exact ⟨us, ty, hw, rels_only cs us hc, hn⟩
      | some s => exact hr.elim
    | spare => exact hr.elim
    | idle => exact hr.elim
  | map es =>
    cases h with
    | blk b t =>
      cases t with
      | none => obtain ⟨ents, clock, hw, hc⟩ := hr; exact ⟨ents, clock, hw, mapRel_only hc⟩
      | some s => exact hr.elim
    | spare => exact hr.elim
    | idle => exact hr.elim
  | tok n =>
    cases h with
    | blk b t => cases t <;> exact hr.elim
    | spare b pos r e n' => exact hr
    | idle => exact hr.elim
  | row cs =>
    cases h with
    | blk b t =>
      cases t with
      | none => exact hr.elim
      | some s =>
        obtain ⟨us, ty, hw, h1, h2, hc, hn⟩ := hr
        have hl := onlys_length p cs
        refine ⟨us, ty, hw, h1, by rw [hl]; exact h2, ?_, hn⟩
        rw [hl]; exact rels_only cs _ hc
    | spare => exact hr.elim
    | idle => exact hr.elim
  | froz cs =>
    cases h with
    | blk b t => cases t <;> exact hr.elim
    | spare => exact hr.elim
    | idle o => cases o with
      | none => exact hr.elim
      | some q => exact hr
  | dead =>
    cases h with
    | blk b t => cases t <;> exact hr.elim
    | spare => exact hr.elim
    | idle o => trivial

theorem cleanSt_get : ∀ (σ : Store) (k : Key), (cleanSt p σ).get k = if p k then (σ.get k).map (Obj.only p) else none
  | [], k => by simp [cleanSt, Store.get]
  | (k', o) :: r, k => by
    simp only [cleanSt]
    split
    · rename_i hp
      simp only [Store.get]
      split
      · rename_i he; subst he; simp [hp]
      · exact cleanSt_get r k
    · rename_i hp
      simp only [Store.get]
      rw [cleanSt_get r k]
      by_cases he : k' = k
      · subst he; simp [hp]
      · rw [if_neg he]

theorem cleanTm_at (tm : Tm) (t : Nat) : ∀ (slots : List Nat), (cleanTm p tm slots).at t = .undef ∨ (cleanTm p tm slots).at t = (tm.at t).only p
  | [] => .inl rfl
  | i :: r => by
    simp only [cleanTm, Tm.at_cons]
    by_cases h : i = t
    · subst h; rw [if_pos rfl]; exact .inr rfl
    · rw [if_neg h]; exact cleanTm_at tm t r

theorem tmRel_clean {tm : Tm} {us : Array Value} (h : TmRel F μ tm us) (slots : List Nat) : TmRel F (μ.only p) (cleanTm p tm slots) us := fun i => by
  rcases cleanTm_at (p := p) tm i slots with h' | h'
  · rw [h']; simp [rel]
  · rw [h']; exact rel_only _ _ (h i)

/-- Of the objects that came in, the same is known later. -/
def Mu.leA (μ μ' : Mu) : Prop := ∀ i h, μ (.arg i) = some h → ∃ h', μ' (.arg i) = some h' ∧ h.le h'

theorem Mu.le.leA {μ μ' : Mu} (h : μ.le μ') : μ.leA μ' := fun _ _ hk => h _ _ hk
theorem Mu.leA_refl (μ : Mu) : μ.leA μ := (Mu.le_refl μ).leA
theorem Mu.leA_trans {a b c : Mu} (h : a.leA b) (h' : b.leA c) : a.leA c := fun i x hx =>
  let ⟨y, hy, l⟩ := h i x hx
  let ⟨z, hz, l'⟩ := h' i y hy
  ⟨z, hz, Hd.le_trans l l'⟩

theorem StRel.cleanP {n : Nat} {s : St} {a : Go.Act} {w : World} (h : StRel n F μ s a w) (slots : List Nat) (p : Key → Bool) (hpa : ∀ i, p (.arg i) = true) :
    ∃ μ', StRel n F μ' ⟨cleanTm p s.tm slots, cleanSt p s.st⟩ a w ∧ Ext μ F w μ' F w ∧ μ.leA μ' := by
  refine ⟨μ.only p, ⟨⟨h.inv.frozen, fun k o hk => ?_, fun k hd hk => ?_, fun k k' hd hd' hne hk hk' => ?_⟩, tmRel_clean h.tm slots, h.dn, h.sz⟩, ?_, fun i hd hk => ⟨hd, by simpa [Mu.only, hpa] using hk, Hd.le_refl _⟩⟩
  · simp only [cleanSt_get] at hk
    split at hk
    · rename_i hp
      simp only [Option.map_eq_some_iff] at hk
      obtain ⟨o', ho', rfl⟩ := hk
      obtain ⟨hd, h1, h2⟩ := h.inv.dom1 k o' ho'
      exact ⟨hd, by simp [Mu.only, hp, h1], objRel_only h2⟩
    · cases hk
  · simp only [Mu.only] at hk
    split at hk
    · rename_i hp
      obtain ⟨o, ho⟩ := h.inv.dom2 k hd hk
      exact ⟨o.only p, by simp [cleanSt_get, hp, ho]⟩
    · cases hk
  · simp only [Mu.only] at hk hk'
    split at hk <;> first | (cases hk; done) | skip
    split at hk' <;> first | (cases hk'; done) | skip
    exact h.inv.apart k k' hd hd' hne hk hk'
  · have := Ext.refl μ F w
    exact ⟨this.le, this.size, this.keep, this.os, this.out, this.fresh, fun k hd hk => by
      simp only [Mu.only] at hk
      split at hk
      · exact this.hd k hd hk
      · cases hk⟩

theorem StRel.clean {n : Nat} {s : St} {a : Go.Act} {w : World} (h : StRel n F μ s a w) (slots keys : List Nat) :
    ∃ μ', StRel n F μ' (clean slots keys s) a w ∧ Ext μ F w μ' F w ∧ μ.leA μ' := h.cleanP slots (keepKey keys) fun _ => rfl

/-! ### names that are turned -/
theorem renSt_get {f : Key → Key} : ∀ {σ : Store}, (σ.map fun q => f q.1).Nodup → ∀ {k : Key} {o : Obj}, σ.get k = some o → (renSt f σ).get (f k) = some (o.ren f)
  | [], _, k, o, h => by simp [Store.get] at h
  | (k', o') :: r, hn, k, o, h => by
    simp only [List.map_cons, List.nodup_cons] at hn
    simp only [Store.get] at h
    simp only [renSt, Store.get]
    split at h
    · rename_i he; subst he; cases h; simp
    · rename_i he
      have ih := renSt_get hn.2 h
      split
      · rename_i hf
        exfalso
        refine hn.1 (List.mem_map.2 ?_)
        have : ∃ q ∈ r, q.1 = k := by
          clear ih hn
          induction r with
          | nil => simp [Store.get] at h
          | cons q r' ih' =>
            obtain ⟨k1, o1⟩ := q
            simp only [Store.get] at h
            split at h
            · rename_i hk; exact ⟨(k1, o1), by simp, hk⟩
            · obtain ⟨q, hq, h1⟩ := ih' h
              exact ⟨q, by simp [hq], h1⟩
        obtain ⟨q, hq, rfl⟩ := this
        exact ⟨q, hq, hf.symm⟩
      · exact ih

theorem renSt_inv {f : Key → Key} : ∀ {σ : Store}, (σ.map fun q => f q.1).Nodup → ∀ {k : Key} {o : Obj}, (renSt f σ).get k = some o → ∃ k' o', σ.get k' = some o' ∧ k = f k' ∧ o = o'.ren f
  | [], _, k, o, h => by simp [renSt, Store.get] at h
  | (k', o') :: r, hn, k, o, h => by
    simp only [List.map_cons, List.nodup_cons] at hn
    simp only [renSt, Store.get] at h
    split at h
    · rename_i he; subst he; cases h; exact ⟨k', o', by simp [Store.get], rfl, rfl⟩
    · rename_i he
      obtain ⟨k1, o1, h1, h2, h3⟩ := renSt_inv hn.2 h
      refine ⟨k1, o1, ?_, h2, h3⟩
      simp only [Store.get]
      rw [if_neg]
      · exact h1
      · rintro rfl; exact he h2.symm

theorem renTm_at {f : Key → Key} : ∀ (tm : Tm) (i : Nat), (renTm f tm).at i = .undef ∨ (renTm f tm).at i = (tm.at i).ren f
  | [], i => .inl rfl
  | (j, v) :: r, i => by
    simp only [renTm, Tm.at_cons]
    by_cases h : j = i
    · rw [if_pos h, if_pos h]; exact .inr rfl
    · rw [if_neg h, if_neg h]; exact renTm_at r i

open Classical in
theorem StRel.ren {n : Nat} {s : St} {a : Go.Act} {w : World} (h : StRel n F μ s a w) (f : Key → Key) (hfa : ∀ i k, f k = .arg i ↔ k = .arg i) (hn : (s.st.map fun q => f q.1).Nodup) :
    ∃ μ', StRel n F μ' ⟨renTm f s.tm, renSt f s.st⟩ a w ∧ Ext μ F w μ' F w ∧ μ.leA μ' := by
  have inj : ∀ k k' o o', s.st.get k = some o → s.st.get k' = some o' → f k = f k' → k = k' := fun k k' o o' h1 h2 he => by
    have key : ∀ {σ : Store}, (σ.map fun q => f q.1).Nodup → ∀ {k k' : Key} {o o' : Obj}, σ.get k = some o → σ.get k' = some o' → f k = f k' → k = k' := fun {σ} => by
      induction σ with
      | nil => intro _ k k' o o' h; simp [Store.get] at h
      | cons q r ih =>
        intro hn k k' o o' h1 h2 he
        obtain ⟨k0, o0⟩ := q
        simp only [List.map_cons, List.nodup_cons] at hn
        have mem : ∀ {k : Key} {o : Obj}, Store.get r k = some o → f k ∈ r.map fun q => f q.1 := fun {k o} h => by
          clear ih hn h1 h2
          induction r with
          | nil => simp [Store.get] at h
          | cons q r' ih' =>
            obtain ⟨k1, o1⟩ := q
            simp only [Store.get] at h
            split at h
            · rename_i hk; subst hk; simp
            · have := ih' h; simp only [List.map_cons, List.mem_cons]; exact .inr this
        simp only [Store.get] at h1 h2
        split at h1 <;> split at h2
        · rename_i e1 e2; rw [← e1, ← e2]
        · rename_i e1 e2; subst e1; exact absurd (he ▸ mem h2) hn.1
        · rename_i e1 e2; subst e2; exact absurd (he ▸ mem h1) hn.1
        · exact ih hn.2 h1 h2 he
    exact key hn h1 h2 he
  let μ' : Mu := fun k' => if hx : ∃ k, f k = k' ∧ (μ k).isSome = true then μ (Classical.choose hx) else none
  have mu_f : ∀ k hd, μ k = some hd → μ' (f k) = some hd := fun k hd hk => by
    have hx : ∃ k1, f k1 = f k ∧ (μ k1).isSome = true := ⟨k, rfl, by simp [hk]⟩
    have hs := Classical.choose_spec hx
    have e : Classical.choose hx = k := by
      obtain ⟨hd1, h1⟩ := Option.isSome_iff_exists.1 hs.2
      obtain ⟨o1, g1⟩ := h.inv.dom2 _ _ h1
      obtain ⟨o2, g2⟩ := h.inv.dom2 _ _ hk
      exact inj _ _ _ _ g1 g2 hs.1
    show (if hx : ∃ k1, f k1 = f k ∧ (μ k1).isSome = true then μ (Classical.choose hx) else none) = some hd
    rw [dif_pos hx, e, hk]
  have mu_inv : ∀ k' hd, μ' k' = some hd → ∃ k, f k = k' ∧ μ k = some hd := fun k' hd hk => by
    have hk : (if hx : ∃ k, f k = k' ∧ (μ k).isSome = true then μ (Classical.choose hx) else none) = some hd := hk
    split at hk
    · rename_i hx
      exact ⟨_, (Classical.choose_spec hx).1, hk⟩
    · cases hk
  refine ⟨μ', ⟨⟨h.inv.frozen, fun k o hk => ?_, fun k hd hk => ?_, fun k k' hd hd' hne hk hk' => ?_⟩, fun i => ?_, h.dn, h.sz⟩, ?_, fun i hd hk => ⟨hd, ?_, Hd.le_refl _⟩⟩
  · obtain ⟨k1, o1, g1, rfl, rfl⟩ := renSt_inv hn hk
    obtain ⟨hd, h1, h2⟩ := h.inv.dom1 k1 o1 g1
    exact ⟨hd, mu_f _ _ h1, objRel_ren (fun k hd' _ hk => mu_f k hd' hk) h2⟩
  · obtain ⟨k1, rfl, h1⟩ := mu_inv k hd hk
    obtain ⟨o, ho⟩ := h.inv.dom2 k1 hd h1
    exact ⟨_, renSt_get hn ho⟩
  · obtain ⟨k1, rfl, h1⟩ := mu_inv k hd hk
    obtain ⟨k2, rfl, h2⟩ := mu_inv k' hd' hk'
    exact h.inv.apart k1 k2 hd hd' (fun he => hne (by rw [he])) h1 h2
  · rcases renTm_at (f := f) s.tm i with e | e
    · show rel F μ' ((renTm f s.tm).at i) _
      rw [e]; simp [rel]
    · show rel F μ' ((renTm f s.tm).at i) _
      rw [e]; exact rel_ren _ _ (fun k hd _ hk => mu_f k hd hk) (h.tm i)
  · have := Ext.refl μ F w
    exact ⟨this.le, this.size, this.keep, this.os, this.out, this.fresh, fun k hd hk => by
      obtain ⟨k1, _, h1⟩ := mu_inv k hd hk
      exact this.hd k1 hd h1⟩
  · have := mu_f _ _ hk
    rwa [(hfa i (.arg i)).2 rfl] at this

theorem reKey_arg (rens : List (Nat × Nat)) : ∀ (i : Nat) (k : Key), reKey rens k = .arg i ↔ k = .arg i := fun i k => by
  cases k with
  | arg j => simp [reKey]
  | loc s j =>
    simp only [reKey]
    split <;> simp

theorem StRel.cleanR {n : Nat} {s : St} {a : Go.Act} {w : World} (h : StRel n F μ s a w) (slots keys : List Nat) (rens : List (Nat × Nat)) :
    ∃ μ', StRel n F μ' (cleanR slots keys rens s) a w ∧ Ext μ F w μ' F w ∧ μ.leA μ' := by
  obtain ⟨μ1, h1, x1, l1⟩ := h.cleanP slots (keepLive keys s.st) fun _ => rfl
  unfold Go.Ev.cleanR
  simp only
  split
  · rename_i hn
    obtain ⟨μ2, h2, x2, l2⟩ := h1.ren (reKey rens) (reKey_arg rens) hn
    exact ⟨μ2, h2, x1.trans x2, Mu.leA_trans l1 l2⟩
  · exact ⟨μ1, h1, x1, l1⟩

end

/-! ### code -/
def exOf : Ex → Exit
  | .normal => .normal
  | .exit id => .exit id
  | .ret => .ret

def okDst (n : Nat) (ops : Array Oper) : Bool := ops.toList.all fun o => match o.dst with | some d => decide (d < n) | none => true

theorem okDst_spec {n : Nat} {ops : Array Oper} (h : okDst n ops = true) (o : Oper) (ho : o ∈ ops.toList) (d : Nat) (hd : o.dst = some d) : d < n := by
  have := List.all_eq_true.1 h o ho
  simpa [hd] using this

def okCode (n : Nat) : Code → ACode → Bool
  | .region _ ops true, .drawn aops _ => drawnOk ops aops && okDst n ops
  | .region _ ops false, _ => okDst n ops
  | .seq a b, .seq a' b' => okCode n a a' && okCode n b b'
  | .cond _ a b, .cond _ a' b' => okCode n a a' && okCode n b b'
  | .block _ b, .block _ b' => okCode n b b'
  | .loop b, .loop _ _ b' => okCode n b b'
  | .loop b, .loopR _ _ _ b' => okCode n b b'
  | _, _ => true

section
variable {P : Program} {G : Globals} {C : FuncId → Option Contract} {h : Hints} {n : Nat}

theorem hP (F : Frz) (hG : ∀ g cs, G.get g = some cs → frz F g 0 cs) (F' : Frz) (hle : F.le F') (g : Nat) (cs : List V) (hg : G.get g = some cs) : frz F' g 0 cs :=
  frz_mono hle _ _ cs (hG g cs hg)

theorem Inv.drawn {F : Frz} {μ : Mu} {σ : Store} {w : World} (h : Inv F μ σ w) (n : Nat) : Inv F μ σ { w with drawn := n } := by
  refine ⟨h.frozen, fun k o hk => ?_, h.dom2, h.apart⟩
  obtain ⟨hd, h1, h2⟩ := h.dom1 k o hk
  refine ⟨hd, h1, ?_⟩
  cases o <;> cases hd <;> exact h2

theorem Ext.drawn (μ : Mu) (F : Frz) (w : World) (n : Nat) : Ext μ F w μ F { w with drawn := n } :=
  Ext.grow (Frz.le_refl F) (Nat.le_refl _) (fun _ _ => rfl) (fun _ _ h => .inl h) rfl rfl

theorem Chain.len {C : FuncId → Option Contract} : ∀ {L : List Item} {ops : List AOper}, L.map (·.op) = ops → L.length = ops.length := fun h => by rw [← h]; simp

theorem region_wp (hS : Sound P G C) (hM : P.follows .mixedOrders = true) {id : Nat} {ops : Array Oper} {draw : Bool} {acc : List Nat} {l : List AOper} (hp : (if draw then prepOpers P G acc ops ops.toList else prepSeq P G acc ops ops.toList) = some l)
    {s t : St} {a : Go.Act} {w : World} {F : Frz} {μ : Mu} {Q : Exit → Go.Act → World → Prop} (hd : draw = true → drawnOk ops l = true) (hdst : okDst n ops = true)
    (hr : if draw then ∃ logs, runLog C s l [] = some (t, logs) ∧ okPairs logs (freeBits ops) = true else runOps C s l = some t) (hR : StRel n F μ s a w) (hG : ∀ g cs, G.get g = some cs → frz F g 0 cs)
    (hQ : ∀ F' μ' a' w', Ext μ F w μ' F' w' → μ.le μ' → StRel n F' μ' t a' w' → Q .normal a' w') : (Code.region id ops draw).wp P Q a w := by
  cases draw with
  | false => exact wp_region_list (list_wp hS hP (by simpa using hp) (by simpa using hr) (fun o ho => okDst_spec hdst o ho) hR hG hQ)
  | true =>
    simp only [if_true] at hr hp
    obtain ⟨logs, hlog, hok⟩ := hr
    have hD := drawnOk_spec (hd rfl)
    obtain ⟨hlen, hget⟩ := prepOpers_get hp
    obtain ⟨L, h1, h2, h3, h4⟩ := chain_of_log 0 hlog
    have hL : L.length = ops.size := by rw [Chain.len (C := C) h1, hlen]; simp
    have hidx : ∀ (i : Nat) (x : Item), L[i]? = some x → x.idx = i := fun i x hx => by
      have : (L.map (·.idx))[i]? = some x.idx := by simp [hx]
      rw [h2, List.getElem?_range'] at this
      · simpa using this.symm
      · exact (List.getElem?_eq_some_iff.1 hx).1
    have hopx : ∀ (i : Nat) (x : Item), L[i]? = some x → l[i]? = some x.op := fun i x hx => by
      rw [← h1]; simp [hx]
    have hlogx : ∀ (i : Nat) (x : Item), L[i]? = some x → logs[i]? = some (x.rd, x.wr) := fun i x hx => by
      rw [h3]; simp [hx]
    refine wp_region_any hM (any_wp hS hP (aops := l) (fun i o ho => hget i o (by simpa using ho)) hD (fun i o ho => okDst_spec hdst o (by simpa using Array.mem_of_getElem? ho)) ops.size h4 hL (by simp) ?_ ?_ ?_ ?_ ?_ ⟨hR.inv.drawn _, hR.tm, hR.dn, hR.sz⟩ hG
      fun F' μ' a' w' hx hm hR' => hQ F' μ' a' w' ((Ext.drawn μ F w _).trans hx) hm hR')
    · intro x hx
      obtain ⟨i, hi⟩ := List.getElem?_of_mem hx
      rw [hidx i x hi]
      exact hopx i x hi
    · rw [List.pairwise_iff_getElem]
      intro i j hi hj hij
      rw [hidx i _ (List.getElem?_eq_getElem hi), hidx j _ (List.getElem?_eq_getElem hj)]
      exact hij
    · intro i
      constructor
      · rintro ⟨x, hx, rfl⟩
        obtain ⟨i, hi⟩ := List.getElem?_of_mem hx
        rw [hidx i x hi]
        have : i < ops.size := by rw [← hL]; exact (List.getElem?_eq_some_iff.1 hi).1
        exact ⟨this, by simp [this]⟩
      · rintro ⟨hi, _⟩
        have hi' : i < L.length := by rw [hL]; exact hi
        exact ⟨L[i], List.getElem_mem hi', hidx i _ (List.getElem?_eq_getElem hi')⟩
    · intro j k hj
      by_cases hjs : j < ops.size <;> simp [hjs] at hj
    · rw [List.pairwise_iff_getElem]
      intro i j hi hj hij
      have gi := List.getElem?_eq_getElem hi
      have gj := List.getElem?_eq_getElem hj
      rw [hidx i _ gi, hidx j _ gj]
      cases hb : bit (ahead ops) j i with
      | true => exact .inl rfl
      | false =>
        refine .inr ⟨hD.apart j i _ _ (by omega) hij (hopx j _ gj) (hopx i _ gi) hb, ?_⟩
        exact okPairs_spec hok (freeBits_bit hij (by omega) hb) (hlogx i _ gi) (hlogx j _ gj)

theorem iter_ex {f : St → Option (Ex × St)} : ∀ {n : Nat} {s t : St} {ex : Ex}, iter f n s = some (ex, t) → ex ≠ .normal
  | 0, _, _, _, h => by simp [iter] at h
  | n + 1, s, t, ex, h => by
    simp only [iter] at h
    split at h
    · exact iter_ex h
    · rename_i hn
      rintro rfl
      exact hn _ h

theorem code_wp (hS : Sound P G C) (hM : P.follows .mixedOrders = true) (fuel : Nat) : ∀ (c : Code) {ac : ACode} {s t : St} {ex : Ex} {a : Go.Act} {w : World} {F : Frz} {μ : Mu} {Q : Exit → Go.Act → World → Prop},
    prep P G h c = some ac → okCode n c ac = true → evalCode C fuel ac s = some (ex, t) → StRel n F μ s a w → (∀ g cs, G.get g = some cs → frz F g 0 cs) →
    (∀ F' μ' a' w', Ext μ F w μ' F' w' → μ.leA μ' → StRel n F' μ' t a' w' → Q (exOf ex) a' w') → c.wp P Q a w
  | .skip, ac, s, t, ex, a, w, F, μ, Q, hp, hok, hev, hR, hG, hQ => by
    simp only [prep] at hp; cases hp
    simp only [evalCode] at hev; cases hev
    exact wp_skip (hQ F μ a w (Ext.refl ..) (Mu.leA_refl _) hR)
  | .region id ops draw, ac, s, t, ex, a, w, F, μ, Q, hp, hok, hev, hR, hG, hQ => by
    simp only [prep] at hp
    cases draw with
    | false =>
      simp only [Bool.false_eq_true, if_false] at hp
      split at hp <;> first | (cases hp; done) | skip
      rename_i l hl
      cases hp
      simp only [evalCode] at hev
      split at hev <;> cases hev
      rename_i hr
      exact region_wp hS hM (by simpa using hl) (fun hd => by cases hd) hok (by simpa using hr) hR hG fun F' μ' a' w' hx hm hR' => hQ F' μ' a' w' hx hm.leA hR'
    | true =>
      simp only [if_true] at hp
      split at hp <;> first | (cases hp; done) | skip
      rename_i l hl
      cases hp
      simp only [evalCode] at hev
      split at hev <;> first | (cases hev; done) | skip
      rename_i s' logs hr
      split at hev <;> cases hev
      rename_i hpairs
      simp only [okCode, Bool.and_eq_true] at hok
      exact region_wp hS hM (by simpa using hl) (fun _ => hok.1) hok.2 (by simpa using ⟨logs, hr, hpairs⟩) hR hG fun F' μ' a' w' hx hm hR' => hQ F' μ' a' w' hx hm.leA hR'
  | .seq x y, ac, s, t, ex, a, w, F, μ, Q, hp, hok, hev, hR, hG, hQ => by
    simp only [prep] at hp
    split at hp <;> cases hp
    rename_i ax ay hx hy
    simp only [okCode, Bool.and_eq_true] at hok
    simp only [evalCode] at hev
    split at hev
    · rename_i s1 h1
      exact wp_seq (code_wp hS hM fuel x hx hok.1 h1 hR hG fun F' μ' a' w' he hm hR' =>
        code_wp hS hM fuel y hy hok.2 hev hR' (hP F hG F' he.le) fun F'' μ'' a'' w'' he' hm' hR'' => hQ F'' μ'' a'' w'' (he.trans he') (Mu.leA_trans hm hm') hR'')
    · rename_i hn
      refine wp_seq (code_wp hS hM fuel x hx hok.1 hev hR hG fun F' μ' a' w' he hm hR' => ?_)
      have := hQ F' μ' a' w' he hm hR'
      cases ex with
      | normal => exact absurd hev (hn t)
      | exit id => exact this
      | ret => exact this
  | .cond c x y, ac, s, t, ex, a, w, F, μ, Q, hp, hok, hev, hR, hG, hQ => by
    simp only [prep] at hp
    split at hp <;> cases hp
    rename_i ac' ax ay hc hx hy
    simp only [okCode, Bool.and_eq_true] at hok
    simp only [evalCode] at hev
    have hrc := rel_opd (a := a) hG hR.tm hc
    split at hev
    · rename_i hb
      rw [hb] at hrc
      simp only [rel] at hrc
      exact wp_cond_true hrc (code_wp hS hM fuel x hx hok.1 hev hR hG hQ)
    · rename_i hb
      rw [hb] at hrc
      simp only [rel] at hrc
      exact wp_cond_false hrc (code_wp hS hM fuel y hy hok.2 hev hR hG hQ)
    · cases hev
  | .block id b, ac, s, t, ex, a, w, F, μ, Q, hp, hok, hev, hR, hG, hQ => by
    simp only [prep, Option.map_eq_some_iff] at hp
    obtain ⟨ab, hb, rfl⟩ := hp
    simp only [okCode] at hok
    simp only [evalCode] at hev
    split at hev
    · rename_i j s1 h1
      refine wp_block (code_wp hS hM fuel b hb hok h1 hR hG fun F' μ' a' w' he hm hR' => ?_)
      simp only [exOf, Exit.inBlock]
      split at hev
      · rename_i hj
        cases hev
        rw [if_pos hj]
        exact hQ F' μ' a' w' he hm hR'
      · rename_i hj
        cases hev
        rw [if_neg hj]
        exact hQ F' μ' a' w' he hm hR'
    · rename_i hn
      refine wp_block (code_wp hS hM fuel b hb hok hev hR hG fun F' μ' a' w' he hm hR' => ?_)
      have := hQ F' μ' a' w' he hm hR'
      cases ex with
      | normal => exact this
      | exit j => exact absurd hev (hn j t)
      | ret => exact this
  | .loop b, ac, s, t, ex, a, w, F, μ, Q, hp, hok, hev, hR, hG, hQ => by
    simp only [prep, Option.map_eq_some_iff] at hp
    obtain ⟨ab, hb, rfl⟩ := hp
    have gen : ∀ (cl : St → St), (∀ {F : Frz} {μ : Mu} {s : St} {a : Go.Act} {w : World}, StRel n F μ s a w → ∃ μ', StRel n F μ' (cl s) a w ∧ Ext μ F w μ' F w ∧ μ.leA μ') → okCode n b ab = true → iter (fun s => evalCode C fuel ab (cl s)) fuel s = some (ex, t) → (Code.loop b).wp P Q a w := fun cl hcl hok hev => by
      have key : ∀ (m : Nat) {s t : St} {ex : Ex} {a : Go.Act} {w : World} {F : Frz} {μ : Mu}, iter (fun s => evalCode C fuel ab (cl s)) m s = some (ex, t) → StRel n F μ s a w → (∀ g cs, G.get g = some cs → frz F g 0 cs) →
          (∀ F' μ' a' w', Ext μ F w μ' F' w' → μ.leA μ' → StRel n F' μ' t a' w' → Q (exOf ex) a' w') → Code.rounds P b Q m a w := by
        intro m
        induction m with
        | zero => intro s t ex a w F μ hev; simp [iter] at hev
        | succ m ih =>
          intro s t ex a w F μ hev hR hG hQ
          have hne := iter_ex hev
          obtain ⟨μ1, hR1, hx1, hm1⟩ := hcl hR
          simp only [iter] at hev
          simp only [Code.rounds]
          split at hev
          · rename_i s1 h1
            exact code_wp hS hM fuel b hb hok h1 hR1 hG fun F' μ' a' w' he hm hR' =>
              ih hev hR' (hP F hG F' he.le) fun F'' μ'' a'' w'' he' hm' hR'' => hQ F'' μ'' a'' w'' (hx1.trans (he.trans he')) (Mu.leA_trans hm1 (Mu.leA_trans hm hm')) hR''
          · refine code_wp hS hM fuel b hb hok hev hR1 hG fun F' μ' a' w' he hm hR' => ?_
            have := hQ F' μ' a' w' (hx1.trans he) (Mu.leA_trans hm1 hm) hR'
            cases ex with
            | normal => exact absurd rfl hne
            | exit id => exact this
            | ret => exact this
      exact wp_loop_rounds fuel (key fuel hev hR hG hQ)
    cases hren : h.ren b with
    | nil =>
      simp only [hren, okCode, evalCode] at hok hev
      exact gen _ (fun hR => hR.clean _ _) hok hev
    | cons q r =>
      simp only [hren, okCode, evalCode] at hok hev
      exact gen _ (fun hR => hR.cleanR _ _ _) hok hev
  | .exit id, ac, s, t, ex, a, w, F, μ, Q, hp, hok, hev, hR, hG, hQ => by
    simp only [prep] at hp; cases hp
    simp only [evalCode] at hev; cases hev
    exact wp_exit (hQ F μ a w (Ext.refl ..) (Mu.leA_refl _) hR)
  | .ret, ac, s, t, ex, a, w, F, μ, Q, hp, hok, hev, hR, hG, hQ => by
    simp only [prep] at hp; cases hp
    simp only [evalCode] at hev; cases hev
    exact wp_ret (hQ F μ a w (Ext.refl ..) (Mu.leA_refl _) hR)
  | .rangeFunc .., ac, s, t, ex, a, w, F, μ, Q, hp, hok, hev, hR, hG, hQ => by simp [prep] at hp
  | .scope .., ac, s, t, ex, a, w, F, μ, Q, hp, hok, hev, hR, hG, hQ => by simp [prep] at hp
  | .label .., ac, s, t, ex, a, w, F, μ, Q, hp, hok, hev, hR, hG, hQ => by simp [prep] at hp
  | .goto .., ac, s, t, ex, a, w, F, μ, Q, hp, hok, hev, hR, hG, hQ => by simp [prep] at hp

end
end Go.Ev

namespace Go.Ev
open Go

def okRes (P : Program) : ResultVar → Bool
  | .tmp _ => true
  | .cell _ t => match sizeT P t with
    | some n => decide (n ≠ 0) && (aggT P t || n == 1)
    | none => false

def okFn (P : Program) (fn : Func) (afn : AFn) : Bool :=
  match fn.body with
  | some c => okCode fn.ntmps c afn.code && fn.results.toList.all (okRes P)
  | none => false

section
variable {P : Program} {w : World} {F : Frz} {μ : Mu} {G : Globals} {C : FuncId → Option Contract}

def resOne (tmps : Array Value) : ResultVar → Sem Value := fun
  | .tmp t => pure (tmps.getD t undef)
  | .cell a t => do loadVar t (← asAddr (tmps.getD a undef))

theorem readAll_run {s : St} {a : Go.Act} {n : Nat} (hR : StRel n F μ s a w) : ∀ {rvs : List ResultVar} {rs : List ARes} {vs : List V}, prepRes P rvs = some rs → rvs.all (okRes P) = true → readAll s rs = some vs →
    ∃ us, (rvs.mapM (resOne a.tmps) : Sem (List Value)).run P w = .ok us w ∧ rels F μ vs us
  | [], rs, vs, hp, _, hr => by
    simp only [prepRes] at hp; cases hp
    simp only [readAll] at hr; cases hr
    exact ⟨[], by simp, by simp [rels]⟩
  | .tmp t :: r, rs, vs, hp, hok, hr => by
    simp only [prepRes, Option.map_eq_some_iff] at hp
    obtain ⟨rs', hp', rfl⟩ := hp
    simp only [List.all_cons, Bool.and_eq_true] at hok
    simp only [readAll, ARes.read] at hr
    split at hr <;> cases hr
    rename_i v vs' hv hvs
    cases hv
    obtain ⟨us, h1, h2⟩ := readAll_run hR hp' hok.2 hvs
    refine ⟨a.tmps.getD t undef :: us, ?_, ?_⟩
    · simp only [List.mapM_cons, Sem.run_bind, resOne, Sem.run_pure, Result.andThen_ok, h1]
    · exact ⟨_, _, rfl, hR.tm t, h2⟩
  | .cell x t :: r, rs, vs, hp, hok, hr => by
    simp only [prepRes] at hp
    split at hp <;> cases hp
    rename_i m rs' hn hp'
    simp only [List.all_cons, Bool.and_eq_true, okRes, hn, decide_eq_true_eq, Bool.or_eq_true, beq_iff_eq] at hok
    obtain ⟨⟨h0, hag⟩, hok'⟩ := hok
    simp only [readAll, ARes.read] at hr
    split at hr <;> cases hr
    rename_i v vs' hv hvs
    obtain ⟨us, h1, h2⟩ := readAll_run hR hp' hok' hvs
    have hx := hR.tm x
    split at hv <;> first | (cases hv; done) | skip
    rename_i k off hk
    rw [hk] at hx
    simp only [rel] at hx
    obtain ⟨b, hb, hu⟩ := hx
    split at hv <;> first | (cases hv; done) | skip
    rename_i cs hcs
    split at hv <;> cases hv
    rename_i hl
    obtain ⟨us0, ty, hw, hc, _⟩ := hR.inv.cells hcs hb
    have hc' := rels_take m (rels_drop off hc)
    have hlen := rels_length hc'
    have h1' : aggT P t = false → m = 1 := fun h => hag.resolve_left (by simp [h])
    have hrun := run_loadVar' (P := P) (w := w) hn (b := b) (o := off) (us := (us0.drop off).take m) (by rw [← hlen, hl]) (fun j v hj => by
      rw [cell_of_heap hw]; exact mem_of_take_drop hj) h1'
    have hrel := rel_mk (agg := aggT P t) hc' (fun h => h0 (by rw [← hl, h]; rfl))
    refine ⟨_ :: us, ?_, ⟨_, _, rfl, hrel, h2⟩⟩
    simp only [List.mapM_cons, Sem.run_bind, resOne, hu, asAddr, Sem.run_pure, Result.andThen_ok, hrun, h1]

theorem rels_thins : ∀ {vs : List V} {us : List Value}, rels F μ vs us → rels F μ (vs.map V.thin) us
  | [], _, h => h
  | v :: r, us, h => by
    simp only [List.map_cons, rels] at h ⊢
    obtain ⟨u, us', hu, h1, h2⟩ := h
    exact ⟨u, us', hu, rel_thin h1, rels_thins h2⟩

theorem rels_thins2 : ∀ {vs : List V} {us : List Value}, rels F μ vs us → rels F μ (vs.map fun v => match v with | .agg cs => .agg (cs.map V.thin) | v => v.thin) us
  | [], _, h => h
  | v :: r, us, h => by
    simp only [List.map_cons, rels] at h ⊢
    obtain ⟨u, us', hu, h1, h2⟩ := h
    refine ⟨u, us', hu, ?_, rels_thins2 h2⟩
    split
    · simp only [rel] at h1 ⊢
      obtain ⟨us, hu, hc⟩ := h1
      exact ⟨us, hu, rels_thins hc⟩
    · exact rel_thin h1

theorem rel_thinAll {v : V} {u : Value} (h : rel F μ v u) : rel F μ v.thinAll u := by
  unfold V.thinAll
  split
  · simp only [rel] at h ⊢
    obtain ⟨us, hu, hc⟩ := h
    exact ⟨us, hu, rels_thins hc⟩
  · simp only [rel] at h ⊢
    obtain ⟨us, hu, hc⟩ := h
    exact ⟨us, hu, rels_thins2 hc⟩
  · exact rel_thin h

theorem rel_single {vs : List V} {us : List Value} (h : rels F μ vs us) : rel F μ (single vs) (if h : us.toArray.size = 1 then us.toArray[0] else .tuple us.toArray) := by
  have hl := rels_length h
  unfold single
  split
  · rename_i v
    obtain ⟨u, us', rfl, h1, h2⟩ := h
    simp only [rels] at h2
    subst h2
    simpa using h1
  · rename_i hn
    have : us.length ≠ 1 := fun h1 => by
      rw [← hl] at h1
      obtain ⟨v, hv⟩ := List.length_eq_one_iff.1 h1
      exact hn v hv
    simp only [List.size_toArray, this, dif_neg, not_false_iff]
    exact ⟨us, rfl, h⟩

theorem backObjs_spec {σ : Store} : ∀ {n i : Nat} {os : List Obj}, backObjs σ i n = some os → os.length = n ∧ ∀ (j : Nat) (o : Obj), os[j]? = some o → σ.get (.arg (i + j)) = some o
  | 0, i, os, h => by simp only [backObjs] at h; cases h; exact ⟨rfl, fun j o ho => by simp at ho⟩
  | n + 1, i, os, h => by
    simp only [backObjs] at h
    split at h <;> cases h
    rename_i o r ho hr
    obtain ⟨h1, h2⟩ := backObjs_spec hr
    refine ⟨by simp [h1], fun j o' hj => ?_⟩
    cases j with
    | zero => simp at hj; subst hj; simpa using ho
    | succ j =>
      simp at hj
      have := h2 j o' hj
      rw [← this]
      congr 2
      omega

theorem objsKeys_mem : ∀ {os : List Obj} {o : Obj} {k : Key}, o ∈ os → k ∈ o.keys → k ∈ objsKeys os
  | [], _, _, h, _ => by simp at h
  | o' :: r, o, k, h, hk => by
    simp only [objsKeys, List.mem_append]
    rcases List.mem_cons.1 h with rfl | h
    · exact .inl hk
    · exact .inr (objsKeys_mem h hk)

def muBack (μ : Mu) (n : Nat) (fresh : List (Key × Obj)) : Mu := fun k =>
  match k with
  | .arg i => if i < n then μ (.arg i) else match fresh[i - n]? with | some p => μ p.1 | none => none
  | .loc .. => none

theorem finish_ok {afn : AFn} {n : Nat} {s : St} {r : V} {os ns : List Obj} (h : afn.finish n s = some (r, os, ns)) (hI : Inv F μ s.st w) :
    ∃ vs, readAll s afn.results = some vs ∧ os.length = n ∧ ∃ μ2 : Mu, Inv F μ2 (argObjs 0 (os ++ ns)) w ∧ (∀ k h, μ2 k = some h → ∃ k', μ k' = some h) ∧ (∀ i, i < n → μ2 (.arg i) = μ (.arg i)) ∧
      ∀ u, rel F μ (single vs) u → rel F μ2 r u := by
  unfold AFn.finish at h
  split at h <;> first | (cases h; done) | skip
  rename_i vs os0 hvs hos
  generalize hrr : (if afn.keep = true then single vs else (single vs).thinAll) = rr at h
  dsimp only at h
  split at h <;> first | (cases h; done) | skip
  rename_i l rd hl
  split at h <;> first | (cases h; done) | skip
  rename_i hchk
  simp only [Bool.and_eq_true, decide_eq_true_eq] at hchk
  obtain ⟨⟨c1, c2⟩, c3⟩ := hchk
  obtain ⟨hlen, hback⟩ := backObjs_spec hos
  have hreach := reach_run (σ := s.st) 64 _ [] hl (by simp)
  generalize hfr : (l.filter fun p => isLoc p.1) = fresh at h
  have hfm : ∀ p ∈ fresh, p ∈ l ∧ isLoc p.1 = true := fun p hp => by rw [← hfr] at hp; simpa using hp
  have hnd : (fresh.map (·.1)).Nodup := by
    rw [← hfr]
    exact List.Nodup.sublist (List.Sublist.map _ List.filter_sublist) c3
  have hget : ∀ (i : Nat) (p : Key × Obj), fresh[i]? = some p → s.st.get p.1 = some p.2 := fun i p hp => hreach p (hfm p (List.mem_of_getElem? hp)).1
  have hk : ∀ k hd, k ∈ l.map (·.1) → μ k = some hd → muBack μ n fresh (freshKey n (fresh.map (·.1)) k) = some hd := fun k hd hkm hμ => by
    obtain ⟨p, hp, rfl⟩ := List.mem_map.1 hkm
    have hb := List.all_eq_true.1 c2 p hp
    simp only [Bool.and_eq_true] at hb
    cases hpk : p.1 with
    | arg i =>
      rw [hpk] at hb hμ
      simp only [Key.below, decide_eq_true_eq] at hb
      simp only [freshKey, muBack, hb.2, if_true]
      exact hμ
    | loc sl j =>
      have hpf : p ∈ fresh := by rw [← hfr]; simp [hp, hpk, isLoc]
      rw [hpk] at hμ
      obtain ⟨i, hi⟩ := findIdxKey_mem (k := .loc sl j) (ks := fresh.map (·.1)) 0 (List.mem_map.2 ⟨p, hpf, hpk⟩)
      have := (findIdxKey_spec hi).2
      simp only [Nat.sub_zero, List.getElem?_map, Option.map_eq_some_iff] at this
      obtain ⟨q, hq, hqk⟩ := this
      have hni : ¬ n + i < n := by omega
      have hsub : n + i - n = i := by omega
      simp only [freshKey, hi, muBack, hni, if_false, hsub, hq, hqk]
      exact hμ
  have hall : ∀ k, k ∈ rr.keys ∨ k ∈ objsKeys os0 → k ∈ l.map (·.1) := fun k hkk => by
    have := List.all_eq_true.1 c1 k (List.mem_append.2 hkk)
    simpa using this
  have hlk : ∀ p ∈ l, ∀ k ∈ p.2.keys, k ∈ l.map (·.1) := fun p hp k hkk => by
    have hb := List.all_eq_true.1 c2 p hp
    simp only [Bool.and_eq_true] at hb
    have := List.all_eq_true.1 hb.1 k hkk
    simpa using this
  cases h
  refine ⟨vs, hvs, by simp [hlen], muBack μ n fresh, ⟨hI.frozen, fun k o hko => ?_, fun k hd hkd => ?_, fun k k' hd hd' hne hkd hkd' => ?_⟩, fun k hd hkd => ?_, fun i hi => by simp [muBack, hi], fun u hu => ?_⟩
  · cases k with
    | loc sl j => rw [argObjs_get] at hko; cases hko
    | arg j =>
      rw [argObjs_get0] at hko
      by_cases hj : j < n
      · rw [List.getElem?_append_left (by simp [hlen, hj])] at hko
        simp only [List.getElem?_map, Option.map_eq_some_iff] at hko
        obtain ⟨o0, ho0, rfl⟩ := hko
        have hb := hback j o0 ho0
        rw [Nat.zero_add] at hb
        obtain ⟨hd, h1, h2⟩ := hI.dom1 _ _ hb
        refine ⟨hd, by simp [muBack, hj, h1], objRel_ren (fun k h' hkk hμ => hk k h' (hall k (.inr (objsKeys_mem (List.mem_of_getElem? ho0) hkk))) hμ) h2⟩
      · rw [List.getElem?_append_right (by simp [hlen]; omega)] at hko
        simp only [List.length_map, hlen, List.getElem?_map, Option.map_eq_some_iff] at hko
        obtain ⟨p, hp, rfl⟩ := hko
        obtain ⟨hd, h1, h2⟩ := hI.dom1 _ _ (hget _ p hp)
        refine ⟨hd, by simp [muBack, hj, hp, h1], objRel_ren (fun k h' hkk hμ => hk k h' (hlk p (hfm p (List.mem_of_getElem? hp)).1 k hkk) hμ) h2⟩
  · cases k with
    | loc sl j => cases hkd
    | arg j =>
      rw [argObjs_get0]
      simp only [muBack] at hkd
      by_cases hj : j < n
      · have : j < (os0.map (Obj.ren (freshKey n (fresh.map (·.1))))).length := by simp [hlen, hj]
        rw [List.getElem?_append_left this]
        exact ⟨_, List.getElem?_eq_getElem this⟩
      · rw [if_neg hj] at hkd
        rw [List.getElem?_append_right (by simp [hlen]; omega)]
        split at hkd
        · rename_i p hp
          exact ⟨_, by simp [hlen, hp]; rfl⟩
        · cases hkd
  · cases k with
    | loc => cases hkd
    | arg i =>
      cases k' with
      | loc => cases hkd'
      | arg j =>
        have hij : i ≠ j := fun he => hne (by rw [he])
        simp only [muBack] at hkd hkd'
        by_cases hi : i < n
        · rw [if_pos hi] at hkd
          by_cases hj : j < n
          · rw [if_pos hj] at hkd'
            exact hI.apart _ _ _ _ hne hkd hkd'
          · rw [if_neg hj] at hkd'
            split at hkd' <;> first | (cases hkd'; done) | skip
            rename_i p hp
            have := (hfm p (List.mem_of_getElem? hp)).2
            exact hI.apart _ _ _ _ (fun he => by rw [← he] at this; cases this) hkd hkd'
        · rw [if_neg hi] at hkd
          split at hkd <;> first | (cases hkd; done) | skip
          rename_i p hp
          have hpl := (hfm p (List.mem_of_getElem? hp)).2
          by_cases hj : j < n
          · rw [if_pos hj] at hkd'
            exact hI.apart _ _ _ _ (fun he => by rw [he] at hpl; cases hpl) hkd hkd'
          · rw [if_neg hj] at hkd'
            split at hkd' <;> first | (cases hkd'; done) | skip
            rename_i q hq
            refine hI.apart _ _ _ _ (fun he => ?_) hkd hkd'
            have := nodup_idx hnd (i := i - n) (j := j - n) (k := p.1) (by simp [hp]) (by simp [hq, he])
            omega
  · cases k with
    | loc => cases hkd
    | arg i =>
      simp only [muBack] at hkd
      split at hkd
      · exact ⟨_, hkd⟩
      · split at hkd
        · exact ⟨_, hkd⟩
        · cases hkd
  · refine rel_ren _ u (fun k h' hkk hμ => hk k h' (hall k (.inl hkk)) hμ) ?_
    rw [← hrr]
    split
    · exact hu
    · exact rel_thinAll hu

theorem argTm_at : ∀ (args : List V) (us : List Value) (k i : Nat), rels F μ args us → (argTm k args).at i = .undef ∨ (k ≤ i ∧ ∃ u, us[i - k]? = some u ∧ rel F μ ((argTm k args).at i) u)
  | [], _, _, _, _ => .inl rfl
  | v :: r, us, k, i, h => by
    obtain ⟨u, us', rfl, h1, h2⟩ := h
    simp only [argTm, Tm.at_cons]
    by_cases hk : k = i
    · subst hk; rw [if_pos rfl]; exact .inr ⟨Nat.le_refl _, u, by simp, h1⟩
    · rw [if_neg hk]
      rcases argTm_at r us' (k + 1) i h2 with h' | ⟨hl, u', hu, hr⟩
      · exact .inl h'
      · refine .inr ⟨by omega, u', ?_, hr⟩
        have : i - k = i - (k + 1) + 1 := by omega
        rw [this]
        simpa using hu

theorem argTm_rel {args : List V} {us : List Value} (h : rels F μ args us) (m : Nat) : TmRel F μ (argTm 0 args) (us.toArray ++ Array.replicate m undef) := fun i => by
  rcases argTm_at args us 0 i h with h' | ⟨_, u, hu, hr⟩
  · rw [h']; simp [rel]
  · rw [Nat.sub_zero] at hu
    have hlt : i < us.length := (List.getElem?_eq_some_iff.1 hu).1
    have : (us.toArray ++ Array.replicate m undef).getD i undef = u := by
      rw [Array.getD_eq_getD_getElem?, Array.getElem?_append_left (by simpa using hlt)]
      simp [hu]
    rw [this]
    exact hr

/-- **A function keeps the contract that its body computes.** -/
theorem fn_holds (hS : Sound P G C) (hM : P.follows .mixedOrders = true) (fuel : Nat) {hints : Hints} {keep : Bool} {f : FuncId} {fn : Func} {afn : AFn} (hf : P.funcs[f]? = some fn)
    (hp : prepFn P G hints keep fn = some afn) (hok : okFn P fn afn = true) : Holds P G f (AFn.run fuel C afn) := by
  intro args objs r os ns hrun hlen F μ w us hG hI hus
  unfold prepFn at hp
  split at hp <;> first | (cases hp; done) | skip
  rename_i c hb
  split at hp <;> cases hp
  rename_i ac rs hc hrs
  simp only [okFn, hb, Bool.and_eq_true] at hok
  have hlu := rels_length hus
  have main : ∀ (ex : Ex) (s : St), (ex = .normal ∨ ex = .ret) → evalCode C fuel ac ⟨argTm 0 args, argObjs 0 objs⟩ = some (ex, s) →
      AFn.finish ⟨fn.ntmps, fn.params.size + fn.nfree, rs, ac, keep⟩ objs.length s = some (r, os, ns) →
      Calls P f us.toArray w fun e w' => ∃ u F' μ', e = .returned u ∧ Inv F' μ' (argObjs 0 (os ++ ns)) w' ∧ Ext μ F w μ' F' w' ∧ μ.le μ' ∧ rel F' μ' r u := by
    intro ex s hex hev hfin
    refine calls_of_wp hf hb (code_wp hS hM fuel c hc hok.1 hev ⟨hI, argTm_rel hus _, rfl, by simp; omega⟩ hG fun F' μ' a' w' hx hm hR' => ?_)
    · obtain ⟨vs, hvs, hln, μ2, i1, i2, i3, i4⟩ := finish_ok hfin hR'.inv
      obtain ⟨us', hrun', hrel⟩ := readAll_run hR' hrs hok.2 hvs
      have hres : (results fn a'.tmps).run P w' = .ok (if h : us'.toArray.size = 1 then us'.toArray[0] else .tuple us'.toArray) w' := by
        change (fn.results.mapM (resOne a'.tmps) >>= fun vs => pure (if h : vs.size = 1 then vs[0] else .tuple vs)).run P w' = _
        rw [Array.mapM_eq_mapM_toList]
        simp only [Sem.run_bind, Sem.run_map, hrun', Result.andThen_ok, Sem.run_pure]
      have fin : a'.defers = [] ∧ ∃ v, (results fn a'.tmps).run P w' = .ok v w' ∧ ∃ u F'' μ'', Ending.returned v = .returned u ∧ Inv F'' μ'' (argObjs 0 (os ++ ns)) w' ∧ Ext μ F w μ'' F'' w' ∧ μ.le μ'' ∧ rel F'' μ'' r u := by
        refine ⟨hR'.dn, _, hres, _, F', μ2, rfl, i1, ⟨hx.le, hx.size, hx.keep, hx.os, hx.out, hx.fresh, fun k hd hk => ?_⟩, fun k hd hk => ?_, i4 _ (rel_single hrel)⟩
        · obtain ⟨k', hk'⟩ := i2 k hd hk
          exact hx.hd k' hd hk'
        · obtain ⟨o, ho⟩ := hI.dom2 k hd hk
          cases k with
          | loc => rw [argObjs_get] at ho; cases ho
          | arg i =>
            rw [argObjs_get0] at ho
            have hi : i < objs.length := (List.getElem?_eq_some_iff.1 ho).1
            obtain ⟨hd', h1, h2⟩ := hm i hd hk
            exact ⟨hd', by rw [i3 i hi]; exact h1, h2⟩
      rcases hex with rfl | rfl <;> exact fin
  simp only [AFn.run] at hrun
  split at hrun <;> first | (cases hrun; done) | skip
  split at hrun <;> first | (cases hrun; done) | skip
  · rename_i s hev; exact main _ s (.inl rfl) hev hrun
  · rename_i s hev; exact main _ s (.inr rfl) hev hrun

end
end Go.Ev
