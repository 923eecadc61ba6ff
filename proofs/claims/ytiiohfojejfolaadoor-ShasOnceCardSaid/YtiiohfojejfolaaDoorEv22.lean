/-
  Regions: in the order of the text, and in any order.
-/
import Derived.Test.YtiiohfojejfolaaDoorEv21
set_option linter.unusedVariables false
set_option linter.unusedSimpArgs false
namespace Go.Ev
open Go

theorem Inv.congr {F : Frz} {μ : Mu} {σ σ' : Store} {w : World} (h : Inv F μ σ w) (he : ∀ k, σ.get k = σ'.get k) : Inv F μ σ' w where
  frozen := h.frozen
  dom1 := fun k o hk => h.dom1 k o (by rw [he]; exact hk)
  dom2 := fun k hd hk => by rw [← he]; exact h.dom2 k hd hk
  apart := h.apart

theorem StRel.eqv {n : Nat} {F : Frz} {μ : Mu} {s s' : St} {a : Go.Act} {w : World} (h : StRel n F μ s a w) (he : s.eqv s') : StRel n F μ s' a w where
  inv := h.inv.congr he.2
  tm := fun i => by rw [← he.1 i]; exact h.tm i
  dn := h.dn
  sz := h.sz

/-- Which operations lie ahead, by the bits. -/
def bit (A : List Nat) (j k : Nat) : Bool := decide (k < j) && (A.getD j 0).testBit k

/-- The bits are grounded in the edges; edges lead back; pairs that are not ordered are apart. -/
def drawnOk (ops : Array Oper) (aops : List AOper) : Bool :=
  let A := ahead ops
  (List.range ops.size).all fun j => match ops[j]?, aops[j]? with
    | some o, some ao =>
      (o.after.toList.all fun e => !Region.binds .any e || decide (e.on < j)) &&
      (List.range j).all fun k =>
        if (A.getD j 0).testBit k then o.after.toList.any fun e => Region.binds .any e && (e.on == k || bit A e.on k)
        else match aops[k]? with | some ak => ak.apart ao | none => false
    | _, _ => false

structure DrawnOk (ops : Array Oper) (aops : List AOper) : Prop where
  back : ∀ j o, ops[j]? = some o → ∀ e ∈ o.after, Region.binds .any e = true → e.on < j
  ground : ∀ j k o, ops[j]? = some o → bit (ahead ops) j k = true → ∃ e ∈ o.after, Region.binds .any e = true ∧ (e.on = k ∨ bit (ahead ops) e.on k = true)
  apart : ∀ j k ao ak, j < ops.size → k < j → aops[j]? = some ao → aops[k]? = some ak → bit (ahead ops) j k = false → ak.apart ao = true

theorem drawnOk_spec {ops : Array Oper} {aops : List AOper} (h : drawnOk ops aops = true) : DrawnOk ops aops := by
  have main : ∀ j, j < ops.size → ∃ o ao, ops[j]? = some o ∧ aops[j]? = some ao ∧ (∀ e ∈ o.after, Region.binds .any e = true → e.on < j) ∧
      ∀ k, k < j → if ((ahead ops).getD j 0).testBit k = true then ∃ e ∈ o.after, Region.binds .any e = true ∧ (e.on = k ∨ bit (ahead ops) e.on k = true) else ∃ ak, aops[k]? = some ak ∧ ak.apart ao = true := by
    intro j hj
    have := List.all_eq_true.1 h j (List.mem_range.2 hj)
    split at this
    · rename_i o ao ho hao
      simp only [Bool.and_eq_true] at this
      obtain ⟨h1, h2⟩ := this
      refine ⟨o, ao, ho, hao, fun e he hb => ?_, fun k hk => ?_⟩
      · have := List.all_eq_true.1 h1 e (by simpa using he)
        simpa [hb] using this
      · have := List.all_eq_true.1 h2 k (List.mem_range.2 hk)
        split at this
        · rename_i hbit
          rw [if_pos hbit]
          obtain ⟨e, he, hq⟩ := List.any_eq_true.1 this
          simp only [Bool.and_eq_true, Bool.or_eq_true, beq_iff_eq] at hq
          exact ⟨e, by simpa using he, hq.1, hq.2⟩
        · rename_i hbit
          rw [if_neg hbit]
          split at this
          · rename_i ak hak; exact ⟨ak, hak, this⟩
          · cases this
    · cases this
  have lt {j : Nat} {o : Oper} (ho : ops[j]? = some o) : j < ops.size := (Array.getElem?_eq_some_iff.1 ho).1
  refine ⟨fun j o ho e he hb => ?_, fun j k o ho hbit => ?_, fun j k ao ak hj hk hao hak hbit => ?_⟩
  · obtain ⟨o', ao, ho', _, h1, _⟩ := main j (lt ho)
    rw [ho] at ho'; cases ho'
    exact h1 e he hb
  · obtain ⟨o', ao, ho', _, _, h2⟩ := main j (lt ho)
    rw [ho] at ho'; cases ho'
    simp only [bit, Bool.and_eq_true, decide_eq_true_eq] at hbit
    have := h2 k hbit.1
    rw [if_pos hbit.2] at this
    exact this
  · obtain ⟨o, ao', ho, hao', _, h2⟩ := main j hj
    rw [hao] at hao'; cases hao'
    have := h2 k hk
    simp only [bit, hk, decide_true, Bool.true_and] at hbit
    rw [hbit] at this
    simp only [Bool.false_eq_true, if_false] at this
    obtain ⟨ak', hak', hap⟩ := this
    rw [hak] at hak'; cases hak'
    exact hap

theorem freeBits_bit {ops : Array Oper} {i j : Nat} (hij : i < j) (hj : j < ops.size) (hb : bit (ahead ops) j i = false) : ((freeBits ops).getD j 0).testBit i = true := by
  simp only [bit, hij, decide_true, Bool.true_and] at hb
  have : (freeBits ops).getD j 0 = (2 ^ j - 1) ^^^ ((ahead ops).getD j 0 &&& (2 ^ j - 1)) := by
    simp only [freeBits, List.getD, List.getElem?_map, List.getElem?_range hj, Option.map_some, Option.getD_some]
    rfl
  rw [this, Nat.testBit_xor, Nat.testBit_and, Nat.testBit_two_pow_sub_one, hb]
  simp [hij]

theorem mem_touch {x : List Key × List Key} (hx : (x.1.isEmpty && x.2.isEmpty) = false) : ∀ {logs : List (List Key × List Key)} {k i : Nat}, logs[i]? = some x → (k + i, x) ∈ touch logs k
  | [], _, _, h => by simp at h
  | (rd, wr) :: r, k, 0, h => by
    simp at h
    subst h
    simp only [touch, hx]
    simp
  | (rd, wr) :: r, k, i + 1, h => by
    simp at h
    have := mem_touch hx (k := k + 1) h
    rw [Nat.add_right_comm, Nat.add_assoc] at this
    simp only [touch]
    split
    · exact this
    · exact List.mem_cons_of_mem _ this

theorem okPairs_spec {logs : List (List Key × List Key)} {free : List Nat} (h : okPairs logs free = true) {i j : Nat} (hm : (free.getD j 0).testBit i = true) {x y : List Key × List Key}
    (hx : logs[i]? = some x) (hy : logs[j]? = some y) : compat x y = true := by
  by_cases ex : (x.1.isEmpty && x.2.isEmpty) = true
  · simp only [Bool.and_eq_true, List.isEmpty_iff] at ex
    simp [compat, apartKeys, ex.1, ex.2]
  · by_cases ey : (y.1.isEmpty && y.2.isEmpty) = true
    · simp only [Bool.and_eq_true, List.isEmpty_iff] at ey
      simp [compat, apartKeys, ey.1, ey.2]
    · have mx := mem_touch (by simpa using ex) (k := 0) hx
      have my := mem_touch (by simpa using ey) (k := 0) hy
      rw [Nat.zero_add] at mx my
      have := List.all_eq_true.1 (List.all_eq_true.1 h _ my) _ mx
      simp only [hm, Bool.not_true, Bool.false_or] at this
      exact this

section
variable {P : Program} {w : World} {F : Frz} {μ : Mu} {G : Globals} {C : FuncId → Option Contract} {acc : List Nat} {ops : Array Oper}

theorem prepOpers_get : ∀ {l : List Oper} {al : List AOper}, prepOpers P G acc ops l = some al → al.length = l.length ∧ ∀ (i : Nat) (o : Oper), l[i]? = some o → ∃ ao, al[i]? = some ao ∧ prepOper P G acc ops o = some ao
  | [], al, h => by
    simp only [prepOpers] at h
    cases h
    exact ⟨rfl, fun i o ho => by simp at ho⟩
  | o :: r, al, h => by
    simp only [prepOpers] at h
    split at h <;> first | (cases h; done) | skip
    rename_i ao ar ho hr
    cases h
    obtain ⟨h1, h2⟩ := prepOpers_get hr
    refine ⟨by simp [h1], fun i o' hi => ?_⟩
    cases i with
    | zero => simp at hi; subst hi; exact ⟨ao, by simp, ho⟩
    | succ i => simp at hi ⊢; exact h2 i o' hi

/-- A row that is built: the block, and what is in it. -/
theorem run_buildRow {w : World} {t e : TypeId} {len n : Nat} {xs : List V} {parts : Array (Nat × Value)} (hu : P.underlying t = some (.slice e)) (hn : sizeT P e = some n) (hz : (zeroSize P e).isSome = true) (hb : len * n ≤ 16777216)
    (hl : xs.length = len) (hx : ∀ x ∈ xs, x.cellsOf.length = n ∧ x.cellsOf.all V.isCell = true) (hp : partsRel F noMu (fun i => some (i * n, n)) (rowParts n 0 xs) parts.toList) :
    ∃ cells : Array Value, (Instr.buildSlice t len parts).run P w = .ok (.slice (some ⟨w.heap.size, 0, none⟩) len len) { w with heap := w.heap.push (.cells cells e) } ∧
      rels F noMu (xs.flatMap V.cellsOf) cells.toList ∧ ∀ u ∈ cells.toList, u.oneCell' = true := by
  obtain ⟨m, hm⟩ := Option.isSome_iff_exists.1 hz
  obtain ⟨i, z, hi, hiz, _⟩ := zeroSize_spec hm
  have h24 : ¬ (len * n > 2 ^ 24) := by omega
  obtain ⟨row, hrl, hrun⟩ : ∃ row : Array Value, row.size = len * n ∧ (Instr.buildSlice t len parts).run P w = (match Instr.fill (fun i => some (i * n, n)) row parts.toList with
      | some cells => (do pure (.slice (some (← newRow e cells)) len len) : Sem Value)
      | none => stuck "buildSlice: a part of the wrong size").run P w := by
    by_cases h : len * n = 0
    · refine ⟨(Array.range (len * n)).map fun x => (#[] : Array Value)[x % (#[] : Array Value).size]!, by simp, ?_⟩
      simp only [Instr.buildSlice, Sem.run_bind, run_underlying hu, Result.andThen_ok, run_sizeOf' hn, h24, if_false, if_pos h, Sem.run_pure]
      generalize Instr.fill _ _ parts.toList = q
      cases q <;> rfl
    · refine ⟨(Array.range (len * n)).map fun x => z.cells[x % z.cells.size]!, by simp, ?_⟩
      simp only [Instr.buildSlice, Sem.run_bind, run_underlying hu, Result.andThen_ok, run_sizeOf' hn, h24, if_false, if_neg h, Sem.run_pure, zeroValue, typeInfo, run_program, hi, hiz]
      generalize Instr.fill _ _ parts.toList = q
      cases q <;> rfl
  have hzs : rels F noMu (List.replicate (len * n) V.undef) row.toList := by
    rw [rels_iff]
    refine ⟨by simp [hrl], fun i v u hv _ => ?_⟩
    rw [List.getElem?_replicate] at hv
    split at hv
    · cases hv; simp [rel]
    · cases hv
  have hfv := fillV_row (size := n) xs 0 (List.replicate (len * n) V.undef) (by simp [hl]) hx
  simp only [Nat.zero_mul, List.take_zero, List.nil_append] at hfv
  obtain ⟨cells', hf, hr⟩ := run_fill hzs hp hfv
  have hcell : ∀ u ∈ cells'.toList, u.oneCell' = true := oneCell_of_rels hr (by
    rw [List.all_eq_true]
    intro y hy
    obtain ⟨x, hx', hyx⟩ := List.mem_flatMap.1 hy
    have := (hx x hx').2
    rw [List.all_eq_true] at this
    exact this y hyx)
  refine ⟨cells', ?_, hr, hcell⟩
  rw [hrun, hf]
  simp only [newRow, Sem.run_bind, run_newObj, Result.andThen_ok, Sem.run_pure]

/-- A row of bytes that is built and marked: the two operations' runs, as one. -/
theorem good_lit {w : World} {σ : Store} {tm : Tm} {a : Go.Act} (hI : Inv F μ σ w) (hG : ∀ g cs, G.get g = some cs → frz F g 0 cs) (ht : TmRel F μ tm a.tmps) {o1 o2 : Oper} {l : List AOper} (h : litOper P G acc o1 o2 = some l) :
    ∃ j n agg ps, l = [⟨some j, .mv (.c .undef), none⟩, ⟨o2.dst, .buildSlice n agg ps, none⟩] ∧ o1.dst = some j ∧ o1.guard = none ∧ o2.guard = none ∧
      ∀ dst an rd, (act C dst (AOpd.ev tm) (.buildSlice n agg ps)).run σ [] = some (an, rd) →
        ∃ v w1 w2 F', (execOp a.eval o1).run P w = .ok (.value v) w1 ∧ (∀ a' : Go.Act, a'.eval (.tmp j) = v → (execOp a'.eval o2).run P w1 = .ok (.value v) w2) ∧ Post F μ w F' μ (σ.puts an.up) w2 ∧ rel F' μ an.v v := by
  obtain ⟨d1, op1, ty1, pos1, after1, g1⟩ := o1
  obtain ⟨d2, op2, ty2, pos2, after2, g2⟩ := o2
  unfold litOper at h
  simp only at h
  split at h <;> first | (cases h; done) | skip
  rename_i t len parts j s d i
  split at h <;> first | (cases h; done) | skip
  rename_i hc
  obtain ⟨rfl, rfl, rfl⟩ := hc
  split at h <;> first | (cases h; done) | skip
  rename_i e he
  split at h <;> first | (cases h; done) | skip
  rename_i n agg ps hbyte hop
  cases h
  refine ⟨i, n, agg, ps, rfl, rfl, rfl, rfl, fun dst an rd hr => ?_⟩
  have hu : P.underlying t = some (.slice e) := by
    unfold elemT at he
    split at he
    · rename_i hh; cases he; exact hh
    · cases he
  simp only [prepOp, he] at hop
  split at hop <;> first | (cases hop; done) | skip
  rename_i n' hn
  split at hop <;> first | (cases hop; done) | skip
  rename_i hc
  obtain ⟨c1, c2, c3, c4⟩ := hc
  simp only [Option.map_eq_some_iff] at hop
  obtain ⟨l, hl, hq⟩ := hop
  cases hq
  simp only [act] at hr
  split at hr
  · rename_i xs hs
    have := just_run hr; subst this
    obtain ⟨q1, q2⟩ := prepRow_rel (a := a) hG ht hl hs
    have hx := (settles_spec hs).1
    obtain ⟨cells, hrun, hrels, hcell⟩ := run_buildRow (P := P) (w := w) (parts := parts.map fun (i, x) => (i, a.eval x)) hu hn c4 c3 (by rw [q1]; simpa using c1) hx (by simpa using q2)
    have hpost := Post.newRow (w' := { w with heap := w.heap.push (.cells cells e (cells.size, cells.size + 1)) }) hI cells.toList [] e (cells.size, cells.size + 1) hcell (by simp) rfl rfl
    refine ⟨.slice (some ⟨w.heap.size, 0, none⟩) len len, { w with heap := w.heap.push (.cells cells e) }, { w with heap := w.heap.push (.cells cells e (cells.size, cells.size + 1)) }, _, ?_, fun a' ha' => ?_, hpost, ?_⟩
    · simp only [execOp, Sem.run_bind, hrun, Result.andThen_ok, Sem.run_pure]
    · have hm : (markStringish ⟨w.heap.size, 0, none⟩).run P { w with heap := w.heap.push (.cells cells e) } = .ok () { w with heap := w.heap.push (.cells cells e (cells.size, cells.size + 1)) } := by
        unfold markStringish
        simp only [Sem.run_bind, run_shape, Result.andThen_ok, World.shape?, Array.getElem?_push_size, run_freeze, World.freeze]
        simp only [Nat.one_ne_zero, if_false, beq_self_eq_true, if_true]
        congr 1
        congr 1
        apply Array.ext_getElem?
        intro j
        simp only [Array.getElem?_modify, Array.getElem?_push]
        by_cases hj : w.heap.size = j
        · subst hj; simp
        · simp [hj]
          have : ¬ j = w.heap.size := fun h => hj h.symm
          simp [this]
      simp only [execOp, Sem.run_bind, ha', convert, run_underlying hu, Result.andThen_ok, beq_self_eq_true, run_underlying hbyte, Sem.run_pure, hm]
    · simp only [rel]
      have hlen : xs.length = len := by rw [q1]; simpa using c1
      refine ⟨some ⟨w.heap.size, 0, none⟩, len, by rw [hlen], ⟨.inr rfl, ?_⟩, by simp [ownRel, hlen]⟩
      rw [frzE_iff]
      exact ⟨fun x hx' => (hx x hx').1, frz_put hpost.2.1.le hrels⟩
  · exact (fail_run hr).elim

/-- A region in the order of the text. -/
theorem list_wp {n : Nat} (hS : Sound P G C) (hP : ∀ F : Frz, (∀ g cs, G.get g = some cs → frz F g 0 cs) → ∀ F', F.le F' → ∀ g cs, G.get g = some cs → frz F' g 0 cs) {Q : Exit → Go.Act → World → Prop} :
    ∀ {l : List Oper} {al : List AOper} {s t : St} {a : Go.Act} {w : World} {F : Frz} {μ : Mu}, prepSeq P G acc ops l = some al → runOps C s al = some t → (∀ o ∈ l, ∀ d, o.dst = some d → d < n) → StRel n F μ s a w → (∀ g cs, G.get g = some cs → frz F g 0 cs) →
    (∀ F' μ' a' w', Ext μ F w μ' F' w' → μ.le μ' → StRel n F' μ' t a' w' → Q .normal a' w') → wpList P ops Q l a w
  | [], al, s, t, a, w, F, μ, hp, hr, hn, hR, hG, hQ => by
    simp only [prepSeq] at hp
    cases hp
    simp only [runOps] at hr
    cases hr
    exact hQ F μ a w (Ext.refl ..) (Mu.le_refl _) hR
  | [o], al, s, t, a, w, F, μ, hp, hr, hn, hR, hG, hQ => by
    simp only [prepSeq] at hp
    split at hp <;> first | (cases hp; done) | skip
    rename_i ao ho
    cases hp
    simp only [runOps] at hr
    split at hr <;> first | (cases hr; done) | skip
    rename_i s' rd wr hs
    cases hr
    have := op_wp hS (F0 := F) ho hs hR (hn o (by simp)) hG (K := wpList P ops Q []) (Q := Q) fun v w' F' μ' hx hm hR' => hQ F' μ' _ w' hx hm hR'
    simp only [wpList] at this ⊢
    split
    · rename_i hw; rw [if_pos hw] at this; exact .inl this
    · rename_i hw; rw [if_neg hw] at this; exact this
  | o1 :: o2 :: r, al, s, t, a, w, F, μ, hp, hr, hn, hR, hG, hQ => by
    simp only [prepSeq] at hp
    split at hp
    · rename_i l hl
      split at hp <;> first | (cases hp; done) | skip
      rename_i ar har
      cases hp
      have htm : ∀ j, TmRel F μ ((j, V.undef) :: s.tm) a.tmps := fun j i => by
        rw [Tm.at_cons]
        split
        · simp [rel]
        · exact hR.tm i
      obtain ⟨j, n1, agg, ps, rfl, hd1, hg1, hg2, hgood⟩ := good_lit (C := C) hR.inv hG (htm 0) hl
      obtain ⟨j', n1', agg', ps', he, hd1', _, _, hgood⟩ := good_lit (C := C) hR.inv hG (htm j) hl
      obtain rfl : j = j' := Option.some.inj (hd1.symm.trans hd1')
      simp only [List.cons.injEq, AOper.mk.injEq, AOp.buildSlice.injEq, true_and, and_true] at he
      obtain ⟨rfl, rfl, rfl⟩ := he
      simp only [List.cons_append, List.nil_append, runOps] at hr
      have hs1 : step C s ⟨some j, .mv (.c .undef), none⟩ = some (⟨(j, V.undef) :: s.tm, s.st⟩, [], []) := rfl
      rw [hs1] at hr
      simp only at hr
      split at hr <;> first | (cases hr; done) | skip
      rename_i s' rd wr hs
      rw [step_eq] at hs
      simp only [stepA] at hs
      split at hs <;> first | (cases hs; done) | skip
      rename_i an rdd hact
      cases hs
      obtain ⟨v, w1, w2, F', hrun1, hrun2, hpost, hrel⟩ := hgood _ _ _ hact
      have hj : j < n := hn o1 (by simp) j hd1
      have hsz := hR.sz
      have hev : (a.put o1.dst v).eval (.tmp j) = v := by
        rw [hd1]
        simp only [Go.Act.put, Go.Act.eval]
        simp [show j < a.tmps.size by omega]
      have hR2 : StRel n F' μ ⟨AOper.put ⟨o2.dst, .buildSlice n1 agg ps, none⟩ ((j, V.undef) :: s.tm) an.v, s.st.puts an.up⟩ ((a.put o1.dst v).put o2.dst v) w2 := by
        refine ⟨hpost.1, ?_, put_defers (put_defers hR.dn), by rw [put_size, put_size]; exact hR.sz⟩
        refine tmRel_put rfl (fun d h => by rw [put_size]; exact Nat.lt_of_lt_of_le (hn o2 (by simp) d h) hR.sz) ?_ hrel
        have := tmRel_put (F := F) (μ := μ) (o := ⟨some j, .mv (.c .undef), none⟩) (dst := some j) (x := V.undef) (v := v) (a := a) rfl (fun d h => by cases h; omega) hR.tm (by simp [rel])
        rw [hd1]
        exact this.mono hpost.2.1.le hpost.2.2
      simp only [wpList, Region.wanted, hg1, hg2, if_true]
      refine .inl ?_
      unfold Oper.wp
      rw [hrun1]
      refine .inl ?_
      show Oper.wp P o2 (a.put o1.dst v) w1 _ Q
      unfold Oper.wp
      rw [hrun2 _ hev]
      exact list_wp hS hP har hr (fun o' ho' => hn o' (by simp [ho'])) hR2 (hP F hG F' hpost.2.1.le) fun F'' μ'' a'' w'' hx' hm' hR'' => hQ F'' μ'' a'' w'' (hpost.2.1.trans hx') hm' hR''
    · split at hp <;> first | (cases hp; done) | skip
      rename_i ao ar ho har
      cases hp
      simp only [runOps] at hr
      split at hr <;> first | (cases hr; done) | skip
      rename_i s' rd wr hs
      have := op_wp hS (F0 := F) ho hs hR (hn o1 (by simp)) hG (K := wpList P ops Q (o2 :: r)) (Q := Q) fun v w' F' μ' hx hm hR' =>
        list_wp hS hP har hr (fun o' ho' => hn o' (by simp only [List.mem_cons] at ho' ⊢; exact .inr ho')) hR' (hP F hG F' hx.le) fun F'' μ'' a'' w'' hx' hm' hR'' => hQ F'' μ'' a'' w'' (hx.trans hx') (Mu.le_trans hm hm') hR''
      rw [wpList]
      split
      · rename_i hw; rw [if_pos hw] at this; exact .inl this
      · rename_i hw; rw [if_neg hw] at this; exact this

theorem getD_set_self {listed : Array Bool} {i : Nat} (d : Bool) (h : listed.getD i true = false) : (listed.setIfInBounds i true).getD i d = true := by
  have hlt : i < listed.size := by
    rcases Nat.lt_or_ge i listed.size with h' | h'
    · exact h'
    · simp [Array.getElem?_eq_none h'] at h
  simp [hlt]

theorem getD_flip {listed : Array Bool} {i : Nat} (h : listed.getD i true = false) : listed.getD i false = false := by
  have hlt : i < listed.size := by
    rcases Nat.lt_or_ge i listed.size with h' | h'
    · exact h'
    · simp [Array.getElem?_eq_none h'] at h
  simpa [hlt] using h

theorem any_wp {n : Nat} (hS : Sound P G C) (hP : ∀ F : Frz, (∀ g cs, G.get g = some cs → frz F g 0 cs) → ∀ F', F.le F' → ∀ g cs, G.get g = some cs → frz F' g 0 cs) {Q : Exit → Go.Act → World → Prop}
    {aops : List AOper} (hp : ∀ (i : Nat) (o : Oper), ops[i]? = some o → ∃ ao, aops[i]? = some ao ∧ prepOper P G acc ops o = some ao) (hD : DrawnOk ops aops) (hn : ∀ (i : Nat) (o : Oper), ops[i]? = some o → ∀ d, o.dst = some d → d < n) :
    ∀ (fuel : Nat) {listed : Array Bool} {L : List Item} {s t : St} {a : Go.Act} {w : World} {F : Frz} {μ : Mu},
      Chain C s L t → L.length = fuel → listed.size = ops.size → (∀ x ∈ L, aops[x.idx]? = some x.op) → L.Pairwise (fun x y => x.idx < y.idx) →
      (∀ i, (∃ x ∈ L, x.idx = i) ↔ i < ops.size ∧ listed.getD i true = false) →
      (∀ j k, listed.getD j false = true → bit (ahead ops) j k = true → listed.getD k false = true) →
      L.Pairwise (fun x y => bit (ahead ops) y.idx x.idx = true ∨ x.fits y) →
      StRel n F μ s a w → (∀ g cs, G.get g = some cs → frz F g 0 cs) →
      (∀ F' μ' a' w', Ext μ F w μ' F' w' → μ.le μ' → StRel n F' μ' t a' w' → Q .normal a' w') → wpAny P .any ops Q fuel listed a w
  | 0, listed, L, s, t, a, w, F, μ, hC, hl, hsz, hop, hord, hmem, hcl, hfit, hR, hG, hQ => by
    have : L = [] := List.length_eq_zero_iff.1 hl
    subst this
    refine ⟨?_, hQ F μ a w (Ext.refl ..) (Mu.le_refl _) (hR.eqv hC)⟩
    rw [List.eq_nil_iff_forall_not_mem]
    intro j hj
    obtain ⟨h0, o, ho, _⟩ := mem_ready.1 hj
    obtain ⟨x, hx, _⟩ := (hmem j).2 ⟨(Array.getElem?_eq_some_iff.1 ho).1, h0⟩
    simp at hx
  | fuel + 1, listed, L, s, t, a, w, F, μ, hC, hl, hsz, hop, hord, hmem, hcl, hfit, hR, hG, hQ => by
    refine ⟨fun hnil => ?_, fun i hi => ?_⟩
    · exfalso
      cases L with
      | nil => simp at hl
      | cons x r =>
        obtain ⟨hlt, hun⟩ := (hmem x.idx).1 ⟨x, by simp, rfl⟩
        have : x.idx ∈ Region.ready .any ops listed := by
          refine mem_ready.2 ⟨hun, ops[x.idx], by simp [hlt], fun e he hb => ?_⟩
          have hback := hD.back x.idx _ (by simp [hlt]) e he hb
          cases hq : listed.getD e.on false with
          | true => rfl
          | false =>
            have : listed.getD e.on true = false := by
              have : e.on < listed.size := by omega
              simpa [this] using hq
            obtain ⟨y, hy, hyi⟩ := (hmem e.on).2 ⟨by omega, this⟩
            rcases List.mem_cons.1 hy with rfl | hy
            · omega
            · have := (List.pairwise_cons.1 hord).1 y hy
              omega
        rw [hnil] at this
        cases this
    · obtain ⟨hun, o, ho, hall⟩ := mem_ready.1 hi
      have hlt : i < ops.size := (Array.getElem?_eq_some_iff.1 ho).1
      obtain ⟨x, hx, hxi⟩ := (hmem i).2 ⟨hlt, hun⟩
      obtain ⟨A, B, rfl⟩ := List.append_of_mem hx
      have hfree : ∀ y ∈ A, y.fits x := fun y hy => by
        have := (List.pairwise_append.1 hfit).2.2 y hy x (by simp)
        refine this.resolve_left fun hb => ?_
        have hyun := ((hmem y.idx).1 ⟨y, by simp [hy], rfl⟩).2
        rw [hxi] at hb
        obtain ⟨e, he, hbd, hq⟩ := hD.ground i y.idx o ho hb
        have hl := hall e he hbd
        have : listed.getD y.idx false = true := by
          rcases hq with hq | hq
          · rw [← hq]; exact hl
          · exact hcl _ _ hl hq
        rw [getD_flip hyun] at this
        cases this
      obtain ⟨he, hC'⟩ := Chain.pull hC hfree
      have hstep : step C s x.op = some (s.go x.op x.an, x.rd, x.an.up.map (·.1)) := by rw [step_eff, he]; rfl
      obtain ⟨ao, hao, hpo⟩ := hp i o ho
      have hxo := hop x (by simp)
      rw [hxi, hao] at hxo
      cases hxo
      have hne : ∀ y ∈ A ++ B, y.idx ≠ i := fun y hy => by
        rw [← hxi]
        rcases List.mem_append.1 hy with hy | hy
        · have := (List.pairwise_append.1 hord).2.2 y hy x (by simp); omega
        · have := (List.pairwise_cons.1 (List.pairwise_append.1 hord).2.1).1 y hy; omega
      have hsub : (A ++ B).Sublist (A ++ x :: B) := List.Sublist.append_left (List.sublist_cons_self x B) A
      have := op_wp hS (F0 := F) hpo hstep hR (hn i o ho) hG (K := wpAny P .any ops Q fuel (listed.setIfInBounds i true)) (Q := Q) fun v w' F' μ' hx' hm hR' =>
        any_wp hS hP hp hD hn fuel hC' (by simp at hl ⊢; omega) (by simpa using hsz) (fun y hy => hop y (hsub.subset hy)) (hord.sublist hsub) (fun j => by
          constructor
          · rintro ⟨y, hy, rfl⟩
            obtain ⟨h1, h2⟩ := (hmem y.idx).1 ⟨y, hsub.subset hy, rfl⟩
            exact ⟨h1, by rw [getD_set_ne true (Ne.symm (hne y hy))]; exact h2⟩
          · rintro ⟨h1, h2⟩
            by_cases hji : i = j
            · subst hji
              rw [getD_set_self true hun] at h2
              cases h2
            · rw [getD_set_ne true hji] at h2
              obtain ⟨y, hy, hyj⟩ := (hmem j).2 ⟨h1, h2⟩
              refine ⟨y, ?_, hyj⟩
              rcases List.mem_append.1 hy with hy | hy
              · exact List.mem_append_left _ hy
              · rcases List.mem_cons.1 hy with rfl | hy
                · omega
                · exact List.mem_append_right _ hy) (fun j k hj hb => by
          by_cases hji : i = j
          · subst hji
            obtain ⟨e, he, hbd, hq⟩ := hD.ground i k o ho hb
            have hl := hall e he hbd
            refine getD_set_true ?_
            rcases hq with hq | hq
            · rw [← hq]; exact hl
            · exact hcl _ _ hl hq
          · rw [getD_set_ne false hji] at hj
            exact getD_set_true (hcl j k hj hb)) (hfit.sublist hsub) hR' (hP F hG F' hx'.le) fun F'' μ'' a'' w'' hx'' hm'' hR'' => hQ F'' μ'' a'' w'' (hx'.trans hx'') (Mu.le_trans hm hm'') hR''
      unfold wpOp
      rw [ho]
      simp only
      split
      · rename_i hw; rw [if_pos hw] at this; exact .inl this
      · rename_i hw; rw [if_neg hw] at this; exact this

end
end Go.Ev
