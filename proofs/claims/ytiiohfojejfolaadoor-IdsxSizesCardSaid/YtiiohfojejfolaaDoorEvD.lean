/-
  The evaluator, part D. Each operation of the program that is no call does in memory what it does on plain values: all together.
-/
import Derived.Test.YtiiohfojejfolaaDoorEvC
set_option linter.unusedVariables false
set_option linter.unusedSimpArgs false
namespace Go.Ev
open Go

section
variable {P : Program} {w : World} {F : Frz} {μ : Mu} {σ : Store} {G : Globals} {tm : Tm} {a : Go.Act}

theorem good_nilrow {k : Key} {e : Nat} {ans : Ans} {l rd : List Key} (hI : Inv F μ σ w) (hr : (Act.new k (.ret ⟨.slc e [] (.tok k 0), [(k, .tok 0)]⟩)).run σ l = some (ans, rd)) {s : Sem Next}
    (hs : s.run P w = .ok (.value (.slice none 0 0)) w) : Good P s F μ σ w ans := by
  obtain ⟨hk, hr⟩ := new_run hr
  have := ret_run hr; simp only at this; subst this
  obtain ⟨hI2, hle2⟩ := Post.newTok (w := w) hI hk (h := .spare 0 0 0 e 0) (n := 0) ⟨rfl, .inl rfl⟩ (fun k' h' _ => by cases h' <;> simp [Hd.disj])
  refine ⟨.slice none 0 0, w, F, _, .inl hs, ⟨hI2, Ext.set (.inl (by simp)), hle2⟩, ?_⟩
  simp only [rel]
  exact ⟨none, 0, by simp, by simp, by simp, 0, 0, 0, e, 0, Mu.set_same .., by simp, fun _ => ⟨by simp, .inl rfl⟩⟩

theorem good_op (hI : Inv F μ σ w) (hG : ∀ g cs, G.get g = some cs → frz F g 0 cs) (ht : TmRel F μ tm a.tmps) {acc : List Nat} {o : Oper} {ao : AOp} (h : prepOp P G acc o = some ao) (hnc : ao.isCall = false)
    {C : FuncId → Option Contract} {dst : Nat} {ans : Ans} {rd : List Key} (hr : (act C dst (AOpd.ev tm) ao).run σ [] = some (ans, rd)) : Good P (execOp a.eval o) F μ σ w ans := by
  obtain ⟨odst, op, ty, pos, after, guard⟩ := o
  cases op <;> simp only [prepOp] at h
  case move x =>
    simp only [Option.map_eq_some_iff] at h
    obtain ⟨y, hy, rfl⟩ := h
    have := just_run hr; subst this
    exact Good.same hI (by simp only [execOp, Sem.run_pure]) (rel_coerce (rel_opd hG ht hy))
  case assign x =>
    simp only [Option.map_eq_some_iff] at h
    obtain ⟨y, hx, rfl⟩ := h
    have hrel := rel_opd (a := a) hG ht hx
    unfold accOp at hr hnc
    split at hr
    · split at hr
      · simp only [AOpd.ev, rel] at hrel
        exact good_nilrow hI hr (by simp only [execOp, Sem.run_pure, hrel])
      · have := just_run hr; subst this
        exact Good.same hI (by simp only [execOp, Sem.run_pure]) (rel_coerce hrel)
    · have := just_run hr; subst this
      exact Good.same hI (by simp only [execOp, Sem.run_pure]) (rel_coerce hrel)
  case pick c x y =>
    split at h
    · rename_i c' x' y' hc hx hy
      cases h
      have h1 := rel_opd (a := a) hG ht hc
      have h2 := rel_coerce (P := P) (t := ty) (rel_opd (a := a) hG ht hx)
      have h3 := rel_coerce (P := P) (t := ty) (rel_opd (a := a) hG ht hy)
      simp only [act] at hr
      split at hr
      · rename_i he
        rw [he] at h1; simp only [rel] at h1
        have := just_run hr; subst this
        exact Good.same hI (by simp only [execOp, h1, asBool, Sem.run_bind, Sem.run_pure, Result.andThen_ok, if_true]) h2
      · rename_i he
        rw [he] at h1; simp only [rel] at h1
        have := just_run hr; subst this
        exact Good.same hI (by simp only [execOp, h1, asBool, Sem.run_bind, Sem.run_pure, Result.andThen_ok, Bool.false_eq_true, if_false]) h3
      · exact (fail_run hr).elim
    · cases h
  case alloc t =>
    simp only [Option.map_eq_some_iff] at h
    obtain ⟨cs, hz, rfl⟩ := h
    exact good_alloc hI hz hr
  case box t x =>
    split at h
    · rename_i n x' hn hx
      cases h
      simp only [act] at hr
      split at hr
      · rename_i hc
        exact good_box hI (rel_coerce (rel_opd hG ht hx)) hc.2 hr
      · exact (fail_run hr).elim
    · cases h
  case build t parts =>
    split at h
    · rename_i fs z hu hz
      split at h
      · rename_i hall
        simp only [Option.map_eq_some_iff] at h
        obtain ⟨l, hl, rfl⟩ := h
        simp only [act] at hr
        split at hr
        · rename_i cs hf
          have := just_run hr; subst this
          have hp := prepFields_rel (a := a) hG ht hl
          obtain ⟨v, hv, hrel⟩ := run_build_struct (P := P) (w := w) (parts := parts.map fun (i, x) => (i, a.eval x)) hu hz hall (by simpa using hp) hf
          exact good_val hI hv hrel
        · exact (fail_run hr).elim
      · cases h
    · rename_i len e z hu hz
      split at h
      · rename_i n hn
        simp only [Option.map_eq_some_iff] at h
        obtain ⟨l, hl, rfl⟩ := h
        simp only [act] at hr
        split at hr
        · rename_i cs hf
          have := just_run hr; subst this
          have hp := prepElems_rel (a := a) hG ht hl
          obtain ⟨v, hv, hrel⟩ := run_build_array (P := P) (w := w) (parts := parts.map fun (i, x) => (i, a.eval x)) hu hz hn (by simpa using hp) hf
          exact good_val hI hv hrel
        · exact (fail_run hr).elim
      · cases h
    · cases h
  case buildSlice t len parts =>
    split at h
    · rename_i e he
      split at h
      · rename_i n hn
        split at h
        · rename_i hc
          obtain ⟨c1, c2, c3, c4⟩ := hc
          simp only [Option.map_eq_some_iff] at h
          obtain ⟨l, hl, rfl⟩ := h
          have hu : P.underlying t = some (.slice e) := by
            unfold elemT at he
            split at he
            · rename_i hh; cases he; exact hh
            · cases he
          have old : (act C dst (AOpd.ev tm) (.buildSlice n (aggT P e) l)).run σ [] = some (ans, rd) → Good P (execOp a.eval ⟨odst, .buildSlice t len parts, ty, pos, after, guard⟩) F μ σ w ans := fun hr => by
            simp only [act] at hr
            split at hr
            · rename_i xs hs
              have := just_run hr; subst this
              obtain ⟨g1, g2⟩ := prepRow_rel (a := a) hG ht hl hs
              have hx := (settles_spec hs).1
              exact good_buildSlice hI hu hn c2 c4 c3 (by rw [g1]; simpa using c1) hx (by simpa using g2)
            · exact (fail_run hr).elim
          unfold rowOp at hr
          split at hr
          · split at hr
            · simp only [act] at hr
              split at hr
              · rename_i cs hro
                obtain ⟨hk, hr⟩ := new_run hr
                have := ret_run hr; simp only at this; subst this
                obtain ⟨g1, g2⟩ := prepRow_parts (a := a) (n := n) hG ht hl
                have hll : (l.map (AOpd.ev tm)).length = len := by rw [List.length_map, g1]; simpa using c1
                have := good_buildRow (P := P) (w := w) (parts := parts.map fun (i, x) => (i, a.eval x)) hI hu hn c2 c4 c3 hll hro (by simpa using g2) hk
                rw [show l.length = len by simpa using hll]
                exact this
              · exact (fail_run hr).elim
            · split at hr
              · simp only [act] at hr
                obtain ⟨p, l1, h1, hr⟩ := bind_run hr
                split at hr
                · rename_i xs hs
                  have := ret_run hr; simp only at this; subst this
                  obtain ⟨us, hidx, hus⟩ := prepRow_rels (a := a) hG ht hl
                  obtain ⟨vs', ups⟩ := p
                  obtain ⟨F1, μ1, hp1, _, hr1⟩ := frzVals_post hI hus h1
                  obtain ⟨hx, hset⟩ := settles_spec hs
                  have hxs := hset F1 μ1 us hr1
                  have hlx : xs.length = len := by
                    have e1 := rels_length hxs
                    have e2 := congrArg List.length hidx
                    rw [idxs_length] at e2
                    simp only [List.length_map, Array.length_toList] at e2
                    omega
                  have := good_buildSlice (P := P) (w := w) (parts := parts.map fun (i, x) => (i, a.eval x)) hp1.1 hu hn c2 c4 c3 hlx hx (by
                    have h2 := partsRel_idxs (n := n) (k := 0) hxs
                    rw [← hidx] at h2
                    simpa using h2)
                  obtain ⟨v, w', F2, μ2, hrun, hp2, hrel2⟩ := this
                  exact ⟨v, w', F2, μ2, hrun, hp1.trans hp2, hrel2⟩
                · exact (fail_run hr).elim
              · exact old hr
          · exact old hr
        · cases h
      · cases h
    · cases h
  case load t x =>
    split at h
    · rename_i n x' hn hx
      split at h
      · rename_i hc
        cases h
        have hrel := rel_opd (a := a) hG ht hx
        refine good_load (rd := rd) hI hn hrel hc.2 hc.1 ?_
        simp only [act] at hr
        exact hr
      · cases h
    · cases h
  case store t x y =>
    split at h
    · rename_i n x' y' hn hx hy
      cases h
      simp only [act, forceL_eq] at hr
      exact good_store hI hn (rel_opd hG ht hx) (rel_coerce (P := P) (t := t) (rel_opd hG ht hy)) hr
    · cases h
  case nilCheck x =>
    simp only [Option.map_eq_some_iff] at h
    obtain ⟨y, hy, rfl⟩ := h
    have hrel := rel_opd (a := a) hG ht hy
    simp only [act] at hr
    obtain ⟨rfl, hc⟩ := good_nilCheck hr hrel
    refine Good.same hI ?_ hrel
    rcases hc with ⟨b, hb⟩ | ⟨f, p, q, hb⟩ <;> simp only [execOp, hb, Sem.run_pure]
  case binOp bop t x y yt =>
    split at h
    · rename_i x' y' hx hy
      have h1 := rel_opd (a := a) hG ht hx
      have h2 := rel_opd (a := a) hG ht hy
      split at h
      · rename_i hagg
        split at h
        · rename_i hfe
          simp only [Bool.and_eq_true, Bool.not_eq_true'] at hfe
          have key : ∀ n neg, sizeT P t = some n → (act C dst (AOpd.ev tm) (.eqAgg n neg x' y')).run σ [] = some (ans, rd) → (bop = (if neg then .neq else .eql)) → Good P (execOp a.eval ⟨odst, .binOp bop t x y yt, ty, pos, after, guard⟩) F μ σ w ans := fun n neg hn hr hb => by
            simp only [act] at hr
            split at hr
            · rename_i xs ys e1 e2
              rw [e1] at h1; rw [e2] at h2
              simp only [rel] at h1 h2
              obtain ⟨us, hus, r1⟩ := h1
              obtain ⟨vs, hvs, r2⟩ := h2
              split at hr
              · rename_i hlen
                split at hr
                · rename_i b hb'
                  have := just_run hr; subst this
                  have heq := run_equalIn_flat (w := w) 20 t n hfe.1 hn 9980 xs ys us vs b r1 r2 hlen.1 hlen.2 hb'
                  simp only [mkv, hagg, if_true] at heq
                  have heq' : (Op.equal t (.agg us.toArray) (.agg vs.toArray)).run P w = .ok b w := heq
                  have hg : (eqGuard bop t x y (.agg us.toArray) (.agg vs.toArray)).run P w = .ok () w := by
                    unfold eqGuard
                    cases bop <;> simp [hfe.2]
                  refine good_val (u := .bool (if neg then !b else b)) hI ?_ (by simp only [rel])
                  simp only [Sem.run_bind, hus, hvs, hg, Result.andThen_ok]
                  cases neg
                  · simp only [Bool.false_eq_true, if_false] at hb; subst hb
                    simp only [binOp, Sem.run_bind, heq', Result.andThen_ok, Sem.run_pure, Bool.false_eq_true, if_false]
                  · simp only [if_true] at hb; subst hb
                    simp only [binOp, Sem.run_bind, heq', Result.andThen_ok, Sem.run_pure, if_true]
                · exact (fail_run hr).elim
              · exact (fail_run hr).elim
            · exact (fail_run hr).elim
          split at h
          · rename_i hn; cases h; exact key _ false hn hr rfl
          · rename_i hn; cases h; exact key _ true hn hr rfl
          · cases h
        · cases h
      · have key : ∀ tk, tk.fits P t → (act C dst (AOpd.ev tm) (.bin tk bop x' y')).run σ [] = some (ans, rd) → Good P (execOp a.eval ⟨odst, .binOp bop t x y yt, ty, pos, after, guard⟩) F μ σ w ans := fun tk hfit hr => by
          simp only [act] at hr
          obtain ⟨z, hz, rfl⟩ := ofOpt_run hr
          obtain ⟨hrun, hfl⟩ := run_binV (P := P) (w := w) (ox := x) (oy := y) h1 h2 hz hfit
          exact good_val hI hrun (rel_val hfl)
        split at h <;> first | (cases h; done) | skip
        · rename_i hu; cases h; exact key .bool hu hr
        · rename_i hu; cases h; exact key .num trivial hr
        · rename_i hu; cases h; exact key .num trivial hr
        · rename_i hu; cases h; exact key .ptr ⟨_, hu⟩ hr
        · rename_i hu; cases h; exact key .slc ⟨_, hu⟩ hr
        · rename_i hu; cases h; exact key .map ⟨_, _, hu⟩ hr
        · rename_i hu; cases h; exact key .func ⟨_, _, _, hu⟩ hr
    · cases h
  case unOp uop t x =>
    simp only [Option.map_eq_some_iff] at h
    obtain ⟨y, hy, rfl⟩ := h
    simp only [act] at hr
    obtain ⟨z, hz, rfl⟩ := ofOpt_run hr
    obtain ⟨hrun, hfl⟩ := good_un (P := P) (w := w) (rel_opd (a := a) hG ht hy) hz
    exact good_val hI hrun (rel_val hfl)
  case convert s d x =>
    split at h <;> first | (cases h; done) | skip
    · rename_i y ks kd hy hs hd
      cases h
      have h1 := rel_opd (a := a) hG ht hy
      simp only [act] at hr
      split at hr
      · rename_i k n e1
        rw [e1] at h1; simp only [rel] at h1
        have := just_run hr; subst this
        exact good_val (u := .int kd (kd.wrap n)) hI (by simp only [convert, Sem.run_bind, run_underlying hs, run_underlying hd, Result.andThen_ok, h1, Conv.intToInt, Sem.run_pure]) (by simp only [rel])
      · exact (fail_run hr).elim
    · rename_i y hy hs hd
      cases h
      have h1 := rel_opd (a := a) hG ht hy
      simp only [act] at hr
      split at hr
      · rename_i q e1
        rw [e1] at h1; simp only [rel] at h1
        have := just_run hr; subst this
        exact good_val (u := .string q) hI (by simp only [convert, Sem.run_bind, run_underlying hs, run_underlying hd, Result.andThen_ok, h1, Sem.run_pure]) (by simp only [rel])
      · exact (fail_run hr).elim
    · rename_i y e hy hs hd
      split at h <;> first | (cases h; done) | skip
      rename_i he hse
      cases h
      have h1 := rel_opd (a := a) hG ht hy
      simp only [act] at hr
      split at hr
      · rename_i q e1
        rw [e1] at h1; simp only [rel] at h1
        split at hr
        · rename_i hsz
          have := just_run hr; subst this
          have := good_bytesOf (P := P) (w := w) hI hs hd he hsz
          simp only [execOp, h1]
          exact this
        · exact (fail_run hr).elim
      · exact (fail_run hr).elim
    · rename_i y e hy hs hd
      split at h <;> first | (cases h; done) | skip
      rename_i he
      cases h
      have h1 := rel_opd (a := a) hG ht hy
      simp only [act] at hr
      split at hr
      · exact (fail_run hr).elim
      · rename_i hns
        obtain ⟨xs, l', hsrc, hr⟩ := bind_run hr
        split at hr
        · rename_i b hb
          have := just_run hr; subst this
          exact good_stringOf (P := P) (w := w) hI hs hd he h1 hsrc hb (fun q hq => hns q hq)
        · exact (fail_run hr).elim
  case sliceToArrayPointer t x =>
    split at h <;> first | (cases h; done) | skip
    rename_i n e y hu hy
    cases h
    have h1 := rel_opd (a := a) hG ht hy
    simp only [act] at hr
    split at hr
    · rename_i es xs own e1
      rw [e1] at h1; simp only [rel] at h1
      obtain ⟨base, cap, hv, hb, _⟩ := h1
      split at hr
      · rename_i hc
        have := just_run hr; subst this
        cases base with
        | none => rw [hb.1] at hc; simp at hc; omega
        | some b =>
          obtain ⟨hsp, hf⟩ := hb
          have hsp : b.spot = none := hsp.resolve_left (by rintro rfl; simp at hc; omega)
          rw [frzE_iff] at hf
          refine good_val (u := .pointer (some b)) hI ?_ ?_
          · have : ¬ (xs.length < n) := by omega
            simp only [Instr.arrayAt, Sem.run_bind, run_underlying hu, Result.andThen_ok, hv, this, if_false, Sem.run_pure]
          · simp only [rel]
            exact ⟨b.block, b.off, by cases b; simp_all, hf.2⟩
      · exact (fail_run hr).elim
    · exact (fail_run hr).elim
  case makeFunc fn first captured =>
    split at h <;> first | (cases h; done) | skip
    rename_i l1 l2 h1 h2
    cases h
    have r1 := rels_opds (a := a) hG ht h1
    have r2 := rels_opds (a := a) hG ht h2
    have := just_run hr; subst this
    refine good_val (u := .func fn (first.map a.eval) (captured.map a.eval)) hI (by simp only [Instr.makeFunc, Sem.run_pure]) ?_
    simp only [rel]
    refine ⟨_, _, ?_, r1, r2⟩
    rw [show first.map a.eval = (first.toList.map a.eval).toArray from by apply Array.ext'; simp, show captured.map a.eval = (captured.toList.map a.eval).toArray from by apply Array.ext'; simp]
  case makeMap t r =>
    cases r with
    | some r => simp at h
    | none =>
      simp only at h
      split at h <;> first | (cases h; done) | skip
      cases h
      exact good_makeMap hI hr
  case makeSlice t l c =>
    split at h <;> first | (cases h; done) | skip
    rename_i e he
    split at h <;> first | (cases h; done) | skip
    rename_i n b z l' c' hn hb hz hl hc
    split at h <;> first | (cases h; done) | skip
    rename_i hcond
    have hu : P.underlying t = some (.slice e) := by
      unfold elemT at he
      split at he
      · rename_i hh; cases he; exact hh
      · cases he
    have r1 := rel_opd (a := a) hG ht hl
    have r2 := rel_opd (a := a) hG ht hc
    split at h
    · rename_i k0 z0 hz0
      cases h
      simp only [act] at hr
      split at hr
      · rename_i k1 n1 k2 n2 e1 e2
        rw [e1] at r1; rw [e2] at r2
        simp only [rel] at r1 r2
        split at hr
        · rename_i hc4
          obtain ⟨c1, c2, c3⟩ := hc4
          obtain ⟨hk, hr⟩ := new_run hr
          have := ret_run hr; simp only at this; subst this
          have := good_makeRow (P := P) (w := w) (kl := k1) (kc := k2) hI hu hn hb hz c1 c2 c3 hk
          simp only [execOp, r1, r2]
          exact this
        · exact (fail_run hr).elim
      · exact (fail_run hr).elim
    cases h
    simp only [act] at hr
    split at hr
    · rename_i k1 n1 k2 n2 e1 e2
      rw [e1] at r1; rw [e2] at r2
      simp only [rel] at r1 r2
      split at hr
      · rename_i hc4
        obtain ⟨rfl, c2, c3, c4⟩ := hc4
        split at hr
        · rename_i zz hzz
          have := just_run hr; subst this
          have := good_makeSlice (P := P) (w := w) (kl := k1) (kc := k2) hI hu hn hcond.1 hb hz hcond.2.1 hcond.2.2 hzz c2 c3 c4
          simp only [execOp, r1, r2]
          exact this
        · exact (fail_run hr).elim
      · exact (fail_run hr).elim
    · exact (fail_run hr).elim
  case slice t x lo hi mx =>
    split at h <;> first | (cases h; done) | skip
    rename_i x' lo' hi' mx' hx hlo hhi hmx
    have h1 := rel_opd (a := a) hG ht hx
    have r1 := optOpd_rel (a := a) hG ht hlo
    have r2 := optOpd_rel (a := a) hG ht hhi
    have r3 := optOpd_rel (a := a) hG ht hmx
    split at h <;> first | (cases h; done) | skip
    · rename_i e hu
      split at h <;> first | (cases h; done) | skip
      rename_i n hn
      split at h <;> first | (cases h; done) | skip
      rename_i h0
      cases h
      simp only [act] at hr
      split at hr
      · rename_i es xs own e1
        rw [e1] at h1
        split at hr
        · exact (fail_run hr).elim
        rename_i hes
        have hes' : es = n := Classical.byContradiction hes
        subst hes'
        simp only [rel] at h1
        obtain ⟨base, cap, hv, hb, hown⟩ := h1
        have hcap : xs.length ≤ cap := by
          cases own with
          | none => exact hown
          | nn => exact hown.1
          | tight => exact Nat.le_of_eq (Eq.symm hown)
          | tok k st => exact hown.1
        have addrs : ∀ (b : Addr) (l h m : Nat), (xs = [] ∨ b.spot = none) → frzE F b.block b.off es xs → l ≤ h → h ≤ xs.length → (m = l → h = l) →
            ((xs.drop l).take (h - l) = [] ∨ (if m = l then b else b.add (l * es)).spot = none) ∧ frzE F (if m = l then b else b.add (l * es)).block (if m = l then b else b.add (l * es)).off es ((xs.drop l).take (h - l)) := fun b l h m hsp hf hlh hhx hml => by
          rcases hsp with hnil | hsp
          · subst hnil
            simp [frzE]
          have hb' : b = ⟨b.block, b.off, none⟩ := by cases b; simp_all
          split
          · rename_i hm
            have : h - l = 0 := by have := hml hm; omega
            rw [this]; simp [hsp, frzE]
          · rw [hb', addr_add]
            exact ⟨.inr rfl, frzE_take (frzE_drop hf (by omega))⟩
        split at hr
        · rename_i l h hcut
          have := just_run hr; subst this
          obtain ⟨hrun, g1, g2, _⟩ := run_cut (P := P) (w := w) (isS := true) hcut hcap r1 r2 r3
          simp only [Option.getD_none] at hrun
          have hlen : ((xs.drop l).take (h - l)).length = h - l := by simp; omega
          refine good_val (u := .slice (if cap = l then base else base.map (·.add (l * es))) (h - l) (cap - l)) hI ?_ ?_
          · simp only [Instr.sliceAt, Sem.run_bind, run_underlying hu, Result.andThen_ok, Instr.slice, hv, hrun, run_sizeOf' hn, Sem.run_pure]
          · simp only [rel]
            refine ⟨_, _, by rw [hlen], ?_, ?_⟩
            · cases base with
              | none =>
                obtain ⟨rfl, rfl⟩ := hb
                have : l = 0 := by simp at g2; omega
                subst this
                simp
              | some b =>
                have := addrs b l h cap hb.1 hb.2 g1 g2 (by omega)
                by_cases hcl : cap = l
                · simp only [hcl, if_true] at this ⊢; exact this
                · simp only [hcl, if_false] at this ⊢; exact this
            · rw [hlen]
              by_cases hh : h = xs.length
              · rw [if_pos hh]
                subst hh
                cases own with
                | none => simp only [ownRel]; omega
                | nn => simp only [ownRel]; omega
                | tight => simp only [ownRel] at hown ⊢; omega
                | tok k st =>
                  obtain ⟨_, b', pos, r, e', n', hk, hs1, hs2⟩ := hown
                  refine ⟨by omega, b', pos, r, e', n', hk, by omega, fun hh => ?_⟩
                  obtain ⟨q1, q2⟩ := hs2 (by omega)
                  refine ⟨by rw [q1]; exact Nat.sub_add_comm g1, ?_⟩
                  by_cases hr0 : r = 0
                  · exact .inl hr0
                  · rcases q2 with h' | ⟨he', ob, hbase, hob⟩
                    · exact absurd h' hr0
                    · refine .inr ⟨he', ?_⟩
                      have hcl : ¬ cap = l := by omega
                      subst hbase
                      refine ⟨ob + l * es, by simp [hcl, addr_add], ?_⟩
                      have : l * es + (xs.length - l) * es = xs.length * es := by rw [← Nat.add_mul]; congr 1; omega
                      omega
              · rw [if_neg hh]; simp only [ownRel]; omega
        · rename_i l h m hcut
          have := just_run hr; subst this
          obtain ⟨hrun, g1, g2, g3⟩ := run_cut (P := P) (w := w) (isS := true) hcut hcap r1 r2 r3
          simp only [Option.getD_some] at hrun
          obtain ⟨g4, g5⟩ := g3 m rfl
          have hlen : ((xs.drop l).take (h - l)).length = h - l := by simp; omega
          refine good_val (u := .slice (if m = l then base else base.map (·.add (l * es))) (h - l) (m - l)) hI ?_ ?_
          · simp only [Instr.sliceAt, Sem.run_bind, run_underlying hu, Result.andThen_ok, Instr.slice, hv, hrun, run_sizeOf' hn, Sem.run_pure]
          · simp only [rel]
            refine ⟨_, _, by rw [hlen], ?_, ?_⟩
            · cases base with
              | none =>
                obtain ⟨rfl, rfl⟩ := hb
                have : l = 0 := by simp at g2; omega
                subst this
                have : m = 0 := by simpa using g5
                subst this
                simp
              | some b =>
                have := addrs b l h m hb.1 hb.2 g1 g2 (by omega)
                by_cases hcl : m = l
                · simp only [hcl, if_true] at this ⊢; exact this
                · simp only [hcl, if_false] at this ⊢; exact this
            · rw [hlen]
              by_cases hh : m = h
              · rw [if_pos hh]; simp only [ownRel]; omega
              · rw [if_neg hh]; simp only [ownRel]; omega
        · exact (fail_run hr).elim
      · rename_i k es off len cap e1
        rw [e1] at h1
        simp only [rel] at h1
        obtain ⟨b, hb, hv⟩ := h1
        split at hr
        · exact (fail_run hr).elim
        rename_i hes
        have hes' : es = n := Classical.byContradiction hes
        subst hes'
        split at hr
        · rename_i kh hh q1 q2 q3
          split at hr
          · rename_i hc
            have := just_run hr; subst this
            rw [q1] at r1
            rw [q2] at r2
            rw [q3] at r3
            have hr1 : lo.map a.eval = none := by
              cases hlo' : lo.map a.eval with
              | none => rfl
              | some u => rw [hlo'] at r1; exact r1.elim
            have hr3 : mx.map a.eval = none := by
              cases hmx' : mx.map a.eval with
              | none => rfl
              | some u => rw [hmx'] at r3; exact r3.elim
            have hr2 : hi.map a.eval = some (.int kh hh) := by
              cases hhi' : hi.map a.eval with
              | none => rw [hhi'] at r2; exact r2.elim
              | some u => rw [hhi'] at r2; simp only [optRel, rel] at r2; rw [r2]
            refine good_val (u := .slice (some ⟨b, off, none⟩) hh.toNat cap) hI ?_ (by simp only [rel]; exact ⟨b, hb, rfl⟩)
            simp only [Instr.sliceAt, Sem.run_bind, run_underlying hu, Result.andThen_ok, Instr.slice, hv, hr1, hr2, hr3, Instr.sliceBounds, Sem.run_pure, run_sliceBound (k := kh) (i := hh) (y := cap) hc.1 hc.2, run_sizeOf' hn]
            simp [addr_add]
          · exact (fail_run hr).elim
        · exact (fail_run hr).elim
      · rename_i k es off len e1
        rw [e1] at h1
        split at hr
        · exact (fail_run hr).elim
        rename_i hes
        have hes' : es = n := Classical.byContradiction hes
        subst hes'
        obtain ⟨ob, hob, hr⟩ := get_run hr
        exact good_sliceRow hI hu hn h0 h1 hob r1 r2 r3 hr
      · exact (fail_run hr).elim
    · rename_i n e hu
      split at h <;> first | (cases h; done) | skip
      rename_i m hm
      split at h <;> first | (cases h; done) | skip
      rename_i h0
      cases h
      simp only [act] at hr
      split at hr
      · rename_i k off e1
        rw [e1] at h1
        simp only [rel] at h1
        obtain ⟨b, hb, hv⟩ := h1
        split at hr
        · rename_i l hh hcut
          have := just_run hr; subst this
          obtain ⟨hrun, g1, g2, _⟩ := run_cut (P := P) (w := w) (isS := false) hcut (Nat.le_refl _) r1 r2 r3
          simp only [Option.getD_none] at hrun
          refine good_val (u := .slice (some ⟨b, if l = n then off else off + l * m, none⟩) (hh - l) (n - l)) hI ?_ (by simp only [rel]; exact ⟨b, hb, rfl⟩)
          simp only [Instr.sliceAt, Sem.run_bind, run_underlying hu, Result.andThen_ok, Instr.sureAddr, hv, hrun, run_sizeOf' hm, Sem.run_pure]
          by_cases hl : n = l
          · subst hl; simp
          · have hl' : ¬ l = n := fun h => hl h.symm
            simp [hl, hl', addr_add]
        · exact (fail_run hr).elim
      · exact (fail_run hr).elim
    · rename_i hu
      split at h <;> first | (cases h; done) | skip
      cases h
      simp only [act] at hr
      split at hr
      · rename_i q e1
        rw [e1] at h1
        simp only [rel] at h1
        split at hr
        · rename_i l hh mm hcut
          have := just_run hr; subst this
          have hmx0 : mx = none := by
            cases mx with
            | none => rfl
            | some m => simp only [optOpd, Option.map_eq_some_iff] at hmx; obtain ⟨_, _, hh⟩ := hmx; cases hh
          subst hmx0
          obtain ⟨hrun, g1, g2, _⟩ := run_cut (P := P) (w := w) (isS := false) hcut (Nat.le_refl _) r1 r2 (show optRel F μ none none from trivial)
          refine good_val (u := .string (q.extract l hh)) hI ?_ (by simp only [rel])
          simp only [Option.map_none, Instr.sliceAt, Sem.run_bind, run_underlying hu, Result.andThen_ok, Instr.slice, h1, hrun, Sem.run_pure, Option.isSome_none, Bool.false_eq_true, if_false]
        · exact (fail_run hr).elim
      · exact (fail_run hr).elim
  case fieldAddr t x f =>
    split at h <;> first | (cases h; done) | skip
    rename_i fd x' hf hx
    split at h <;> first | (cases h; done) | skip
    rename_i n hn
    split at h <;> first | (cases h; done) | skip
    rename_i h0
    cases h
    have h1 := rel_opd (a := a) hG ht hx
    simp only [act] at hr
    split at hr
    · rename_i k o e1
      rw [e1] at h1; simp only [rel] at h1
      obtain ⟨b, hb, hv⟩ := h1
      have := just_run hr; subst this
      refine good_val (u := .pointer (some ⟨b, o + fd.offset, none⟩)) hI ?_ (by simp only [rel]; exact ⟨b, hb, rfl⟩)
      rw [hv]; exact run_fieldAt hf hn h0
    · rename_i cs e1
      rw [e1] at h1
      obtain ⟨b, o, hv, hr2⟩ := rel_fieldAddr_elem (off := fd.offset) h1
      have := just_run hr; subst this
      refine good_val (u := .pointer (some ⟨b, o + fd.offset, none⟩)) hI ?_ hr2
      rw [hv]; exact run_fieldAt hf hn h0
    · rename_i k o e1
      rw [e1] at h1
      obtain ⟨ob, hob, hr⟩ := get_run hr
      split at hr
      · rename_i hc
        have := just_run hr; subst this
        obtain ⟨b, hv, hp⟩ := rptr_alive hI h1 hob hc
        refine good_val (u := .pointer (some ⟨b, o + fd.offset, none⟩)) hI ?_ (hp _)
        rw [hv]; exact run_fieldAt hf hn h0
      · exact (fail_run hr).elim
    · exact (fail_run hr).elim
  case field t x f =>
    split at h <;> first | (cases h; done) | skip
    rename_i fd x' hf hx
    split at h <;> first | (cases h; done) | skip
    rename_i n hn
    split at h <;> first | (cases h; done) | skip
    rename_i h0
    cases h
    have h1 := rel_opd (a := a) hG ht hx
    simp only [act] at hr
    split at hr
    · rename_i cs e1
      rw [e1] at h1; simp only [rel] at h1
      obtain ⟨us, hv, hc⟩ := h1
      split at hr
      · rename_i hl
        have := just_run hr; subst this
        have hrt := rels_take n (rels_drop fd.offset hc)
        have hlen := rels_length hrt
        rw [hl] at hlen
        refine good_val (u := mkv P fd.type ((us.drop fd.offset).take n)) hI ?_ (rel_mk hrt (by intro hh; rw [hh] at hl; simp at hl; omega))
        rw [hv]; exact run_field hf hn h0.2 (by simp at hlen; omega)
      · exact (fail_run hr).elim
    · exact (fail_run hr).elim
  case indexAddr t x i =>
    split at h <;> first | (cases h; done) | skip
    · rename_i x' i' e hx hi hu
      split at h <;> first | (cases h; done) | skip
      rename_i n hn
      split at h <;> first | (cases h; done) | skip
      rename_i h0
      cases h
      have h1 := rel_opd (a := a) hG ht hx
      have h2 := rel_opd (a := a) hG ht hi
      simp only [act] at hr
      split at hr
      · rename_i es xs own k m e1 e2
        rw [e1] at h1; rw [e2] at h2
        simp only [rel] at h1 h2
        obtain ⟨base, cap, hv, hb, _⟩ := h1
        split at hr
        · rename_i hc
          obtain ⟨rfl, hm0⟩ := hc
          split at hr
          · rename_i v hv2
            have := just_run hr; subst this
            have hlt : m.toNat < xs.length := (List.getElem?_eq_some_iff.1 hv2).1
            cases base with
            | none => rw [hb.1] at hlt; simp at hlt
            | some ad =>
              have hsp : ad.spot = none := hb.1.resolve_left (by rintro rfl; simp at hlt)
              have had : ad = ⟨ad.block, ad.off, none⟩ := by cases ad; simp_all
              obtain ⟨_, hfz⟩ := frzE_get hb.2 hv2
              refine good_val (u := .pointer (some ⟨ad.block, ad.off + m.toNat * es, none⟩)) hI ?_ (by simp only [rel]; exact ⟨_, _, rfl, hfz⟩)
              rw [hv, h2, had]; exact run_indexAt_slice' hu hn hm0 (by omega)
          · exact (fail_run hr).elim
        · exact (fail_run hr).elim
      · rename_i kk es off len cap k m e1 e2
        rw [e1] at h1; rw [e2] at h2
        simp only [rel] at h1 h2
        obtain ⟨b, hb, hv⟩ := h1
        split at hr
        · rename_i hc
          obtain ⟨rfl, hm0, hm1⟩ := hc
          have := just_run hr; subst this
          refine good_val (u := .pointer (some ⟨b, off + m.toNat * es, none⟩)) hI ?_ (by simp only [rel]; exact ⟨b, hb, rfl⟩)
          rw [hv, h2]; exact run_indexAt_slice' hu hn hm0 hm1
        · exact (fail_run hr).elim
      · rename_i kk es off len k m e1 e2
        rw [e1] at h1; rw [e2] at h2
        simp only [rel] at h2
        split at hr
        · rename_i hc
          obtain ⟨rfl, hm0, hm1⟩ := hc
          obtain ⟨ob, hob, hr⟩ := get_run hr
          split at hr
          · rename_i hc2
            have := just_run hr; subst this
            obtain ⟨cs, hcs⟩ := Option.isSome_iff_exists.1 hc2
            obtain ⟨b, s, hat, _, _, hptr⟩ := rowv_alive hI h1 hob hcs
            obtain ⟨oo, cap, hv, hcap⟩ := hat
            rcases hcap with ⟨rfl, _⟩ | ⟨_, h, _⟩
            · refine good_val (u := .pointer (some ⟨b, oo + m.toNat * es, none⟩)) hI ?_ (hptr _)
              rw [hv, h2]; exact run_indexAt_slice' hu hn hm0 hm1
            · omega
          · exact (fail_run hr).elim
        · exact (fail_run hr).elim
      · exact (fail_run hr).elim
    · rename_i x' i' len e hx hi hu
      split at h <;> first | (cases h; done) | skip
      rename_i n hn
      split at h <;> first | (cases h; done) | skip
      rename_i h0
      cases h
      have h1 := rel_opd (a := a) hG ht hx
      have h2 := rel_opd (a := a) hG ht hi
      simp only [act] at hr
      split at hr
      · rename_i kk off k m e1 e2
        rw [e1] at h1; rw [e2] at h2
        simp only [rel] at h1 h2
        obtain ⟨b, hb, hv⟩ := h1
        split at hr
        · rename_i hc
          have := just_run hr; subst this
          refine good_val (u := .pointer (some ⟨b, off + m.toNat * n, none⟩)) hI ?_ (by simp only [rel]; exact ⟨b, hb, rfl⟩)
          rw [hv, h2]; exact run_indexAt_array' hu hn hc.1 hc.2
        · exact (fail_run hr).elim
      · rename_i cs k m e1 e2
        rw [e1] at h1; rw [e2] at h2
        simp only [rel] at h2
        split at hr
        · rename_i hc
          have := just_run hr; subst this
          obtain ⟨b, o, hv, hr2⟩ := rel_fieldAddr_elem (off := m.toNat * n) h1
          refine good_val (u := .pointer (some ⟨b, o + m.toNat * n, none⟩)) hI ?_ hr2
          rw [hv, h2]; exact run_indexAt_array' hu hn hc.1 hc.2
        · exact (fail_run hr).elim
      · rename_i kk off k m e1 e2
        rw [e1] at h1; rw [e2] at h2
        simp only [rel] at h2
        split at hr
        · rename_i hc
          obtain ⟨ob, hob, hr⟩ := get_run hr
          split at hr
          · rename_i hc2
            have := just_run hr; subst this
            obtain ⟨b, hv, hp⟩ := rptr_alive hI h1 hob hc2
            refine good_val (u := .pointer (some ⟨b, off + m.toNat * n, none⟩)) hI ?_ (hp _)
            rw [hv, h2]; exact run_indexAt_array' hu hn hc.1 hc.2
          · exact (fail_run hr).elim
        · exact (fail_run hr).elim
      · exact (fail_run hr).elim
  case index t x i =>
    split at h <;> first | (cases h; done) | skip
    rename_i x' i' hx hi hu
    cases h
    have h1 := rel_opd (a := a) hG ht hx
    have h2 := rel_opd (a := a) hG ht hi
    simp only [act] at hr
    split at hr
    · rename_i q k m e1 e2
      rw [e1] at h1; rw [e2] at h2
      simp only [rel] at h1 h2
      split at hr
      · rename_i hm0
        split at hr
        · rename_i b hb
          have := just_run hr; subst this
          refine good_val (u := .int .u8 b.toNat) hI ?_ (by simp only [rel])
          simp only [Instr.index, h1, h2, asIntOf, Sem.run_bind, Sem.run_pure, Result.andThen_ok, run_underlying hu, hm0, if_true, hb]
        · exact (fail_run hr).elim
      · exact (fail_run hr).elim
    · exact (fail_run hr).elim
  case extract x i =>
    simp only [Option.map_eq_some_iff] at h
    obtain ⟨y, hy, rfl⟩ := h
    have h1 := rel_opd (a := a) hG ht hy
    simp only [act] at hr
    split at hr
    · rename_i vs e1
      rw [e1] at h1; simp only [rel] at h1
      obtain ⟨us, hv, hc⟩ := h1
      split at hr
      · rename_i v hvi
        have := just_run hr; subst this
        obtain ⟨u, hu, hrel⟩ := rels_get hc hvi
        refine good_val (u := u) hI ?_ hrel
        simp only [Instr.extract, hv, List.getElem?_toArray, hu, Sem.run_pure]
      · exact (fail_run hr).elim
    · exact (fail_run hr).elim
  case lookup t m k ok =>
    split at h <;> first | (cases h; done) | skip
    rename_i kt vt hu
    split at h <;> first | (cases h; done) | skip
    rename_i kf z n m' k' hkf hz hn hm hk
    split at h <;> first | (cases h; done) | skip
    rename_i hcond
    cases h
    have h1 := rel_opd (a := a) hG ht hm
    have h2 := rel_opd (a := a) hG ht hk
    obtain ⟨iz, vz, hiz, hvz, hrz⟩ := zeroT_spec hz
    have hzv : ∀ w' : World, (zeroValue vt).run P w' = .ok vz w' := fun w' => by simp [zeroValue, typeInfo, hiz, hvz]
    have hzrel : rel F μ (V.mk (aggT P vt) z) vz := by
      have hc := hrz F μ
      have hza : isAggV vz = aggT P vt := by
        simpa [zeroAgg, hiz, hvz] using hcond
      rw [← hza]
      by_cases hag : ∃ cs, vz = .agg cs
      · obtain ⟨cs, rfl⟩ := hag
        simp only [isAggV, V.mk, if_true, rel]; exact ⟨cs.toList, rfl, hc⟩
      · have hcells : vz.cells = #[vz] := Value.cells_of_notAgg fun c hh => hag ⟨c, hh⟩
        have hfalse : isAggV vz = false := by
          unfold isAggV
          split
          · rename_i c; exact absurd ⟨c, rfl⟩ hag
          · rfl
        rw [hfalse]
        rw [hcells] at hc
        cases z with
        | nil => have := rels_length hc; cases this
        | cons x r =>
          simp only [rels] at hc
          obtain ⟨u, us, he, hx, _⟩ := hc
          cases he
          exact hx
    have tell : ∀ (v : V) (u : Value) (b : Bool), rel F μ v u → (Instr.lookup t (a.eval m) (a.eval k) ok).run P w = .ok (if ok then .tuple #[u, .bool b] else u) w →
        (Act.just (if ok then .tuple [v, .bool b] else v)).run σ [] = some (ans, rd) ∨ (∃ l, (Act.just (if ok then .tuple [v, .bool b] else v)).run σ l = some (ans, rd)) →
        Good P (execOp a.eval ⟨odst, .lookup t m k ok, ty, pos, after, guard⟩) F μ σ w ans := fun v u b hv hrun hj => by
      have : ans = ⟨if ok then .tuple [v, .bool b] else v, []⟩ := by
        rcases hj with hj | ⟨l, hj⟩ <;> exact just_run hj
      subst this
      refine good_val (u := if ok then .tuple #[u, .bool b] else u) hI hrun ?_
      cases ok
      · exact hv
      · simp only [if_true, rel, rels]
        exact ⟨[u, .bool b], by simp, u, [.bool b], rfl, hv, .bool b, [], rfl, rfl, rfl⟩
    simp only [act] at hr
    split at hr
    · rename_i hok
      have hk0 : rel F noMu (k'.ev tm) (a.eval k) := rel_frozen _ _ (keyOk_frozen hok) h2
      split at hr
      · rename_i e1
        rw [e1] at h1; simp only [rel] at h1
        refine tell _ _ false hzrel ?_ (.inl hr)
        have hfind := run_findKey' (P := P) (w := w) (μ := μ) (es := []) (l := []) (r := none) hkf hok hk0 (by simp [mapRel]) (by simp [posK])
        simp only [Instr.lookup, Sem.run_bind, run_underlying hu, Result.andThen_ok, h1, Sem.run_pure, run_checkKey' (P := P) (w := w) _ hkf hok h2, hfind, Option.bind_none, hzv]
      · rename_i key e1
        rw [e1] at h1; simp only [rel] at h1
        obtain ⟨b, hb, hv⟩ := h1
        obtain ⟨o, ho, hr⟩ := get_run hr
        cases o <;> simp only at hr <;> try (exact (fail_run hr).elim)
        rename_i es
        obtain ⟨ents, clock, hw, hmr⟩ := hI.map ho hb
        have hget : (getObj b).run P w = .ok (.map ents clock) w := by simp [getObj, Sem.run, hw]
        split at hr
        · rename_i v hf
          obtain ⟨p, hp, hc⟩ := findK_pos hf
          rcases hc with ⟨_, hc⟩ | ⟨i, kv, rfl, hi, hc⟩
          · cases hc
          cases hc
          obtain ⟨e, he, _, hev⟩ := mapRel_get hmr hi
          have hfind := run_findKey' (P := P) (w := w) hkf hok hk0 hmr hp
          refine tell _ _ true hev ?_ (.inr ⟨_, hr⟩)
          simp only [Instr.lookup, Sem.run_bind, run_underlying hu, Result.andThen_ok, hv, hget, Sem.run_pure, run_checkKey' (P := P) (w := w) _ hkf hok h2, hfind, Option.bind_some, he, Option.map_some]
        · rename_i hf
          obtain ⟨p, hp, hc⟩ := findK_pos hf
          rcases hc with ⟨rfl, _⟩ | ⟨i, kv, rfl, hi, hc⟩
          · have hfind := run_findKey' (P := P) (w := w) hkf hok hk0 hmr hp
            refine tell _ _ false hzrel ?_ (.inr ⟨_, hr⟩)
            simp only [Instr.lookup, Sem.run_bind, run_underlying hu, Result.andThen_ok, hv, hget, Sem.run_pure, run_checkKey' (P := P) (w := w) _ hkf hok h2, hfind, Option.bind_none, hzv]
          · cases hc
        · exact (fail_run hr).elim
      · exact (fail_run hr).elim
    · exact (fail_run hr).elim
  case mapUpdate t m k v =>
    split at h <;> first | (cases h; done) | skip
    rename_i kt vt hu
    split at h <;> first | (cases h; done) | skip
    rename_i kf m' k' v' hkf hm hk hv
    cases h
    exact good_mapSet hI hu hkf (rel_opd (a := a) hG ht hm) (rel_opd (a := a) hG ht hk) (rel_coerce (P := P) (t := vt) (rel_opd (a := a) hG ht hv)) hr
  case call c =>
    split at h <;> first | (cases h; done) | skip
    rename_i args hargs
    obtain ⟨callee, cargs, ctypes⟩ := c
    cases callee with
    | value f =>
      simp only at h
      split at h <;> first | (cases h; done) | skip
      · split at h <;> (cases h; simp [AOp.isCall] at hnc)
      · cases h; simp [AOp.isCall] at hnc
    | invoke r n => simp at h
    | builtin b =>
      have hrels := rels_opds (a := a) hG ht hargs
      simp only at h hargs hrels
      have hex : ∀ ty', execOp a.eval ⟨odst, .call ⟨.builtin b, cargs, ctypes⟩, ty', pos, after, guard⟩ = builtin b ctypes ty' (cargs.map fun | .const _ => true | _ => false) (cargs.map a.eval) := fun ty' => rfl
      have hargsA : cargs.map a.eval = (cargs.toList.map a.eval).toArray := by apply Array.ext'; simp
      split at h <;> first | (cases h; done) | skip
      · -- len
        rename_i x t hct
        simp only [List.map_cons, List.map_nil, rels] at hrels
        obtain ⟨u, _, hu0, hrel, rfl⟩ := hrels
        have hcta : ctypes = #[t] := by apply Array.ext'; simpa using hct
        rw [hex, hargsA, hu0, hcta]
        simp only [builtin]
        split at h <;> first | (cases h; done) | skip
        · rename_i n e hu
          cases h
          have := just_run hr; subst this
          refine good_val (u := goInt n) hI ?_ (by simp only [rel, goInt])
          cases u <;> simp [Builtin.len_, run_underlying hu]
        · rename_i hu
          cases h
          simp only [act] at hr
          split at hr
          · rename_i q e1
            rw [e1] at hrel; simp only [rel] at hrel; subst hrel
            have := just_run hr; subst this
            refine good_val (u := goInt q.size) hI ?_ (by simp only [rel, goInt])
            simp [Builtin.len_, run_underlying hu]
          · exact (fail_run hr).elim
        · rename_i e hu
          cases h
          simp only [act] at hr
          split at hr
          · rename_i es xs own e1
            rw [e1] at hrel; simp only [rel] at hrel
            obtain ⟨base, cap, rfl, _⟩ := hrel
            have := just_run hr; subst this
            refine good_val (u := goInt xs.length) hI ?_ (by simp only [rel, goInt])
            simp [Builtin.len_, run_underlying hu]
          · rename_i e1
            rw [e1] at hrel; simp only [rel] at hrel; subst hrel
            have := just_run hr; subst this
            refine good_val (u := goInt 0) hI ?_ (by simp [rel, goInt])
            simp [Builtin.len_, run_underlying hu]
          · rename_i k es off len cap e1
            rw [e1] at hrel; simp only [rel] at hrel
            obtain ⟨bb, _, rfl⟩ := hrel
            have := just_run hr; subst this
            refine good_val (u := goInt len) hI ?_ (by simp only [rel, goInt])
            simp [Builtin.len_, run_underlying hu]
          · rename_i k es off len e1
            rw [e1] at hrel
            obtain ⟨ob, hob, hr⟩ := get_run hr
            split at hr
            · rename_i hc2
              have := just_run hr; subst this
              obtain ⟨cs, hcs⟩ := Option.isSome_iff_exists.1 hc2
              obtain ⟨b, s, hat, _⟩ := rowv_alive hI hrel hob hcs
              obtain ⟨oo, cap, rfl, _⟩ := hat
              refine good_val (u := goInt len) hI ?_ (by simp only [rel, goInt])
              simp [Builtin.len_, run_underlying hu]
            · exact (fail_run hr).elim
          · exact (fail_run hr).elim
        · rename_i kt vt hu
          cases h
          simp only [act] at hr
          split at hr
          · rename_i e1
            rw [e1] at hrel; simp only [rel] at hrel; subst hrel
            have := just_run hr; subst this
            refine good_val (u := goInt 0) hI ?_ (by simp [rel, goInt])
            simp [Builtin.len_, run_underlying hu]
          · rename_i key e1
            rw [e1] at hrel; simp only [rel] at hrel
            obtain ⟨bb, hb, rfl⟩ := hrel
            obtain ⟨o, ho, hr⟩ := get_run hr
            cases o <;> simp only at hr <;> try (exact (fail_run hr).elim)
            rename_i es
            obtain ⟨ents, clock, hw, hmr⟩ := hI.map ho hb
            have hget : (getObj bb).run P w = .ok (.map ents clock) w := by simp [getObj, Sem.run, hw]
            have := just_run hr; subst this
            have hl := mapRel_length hmr
            refine good_val (u := goInt ents.size) hI ?_ (by simp only [rel, goInt]; rw [hl]; simp)
            simp [Builtin.len_, run_underlying hu, hget]
          · exact (fail_run hr).elim
      · -- cap
        rename_i x t hct
        simp only [List.map_cons, List.map_nil, rels] at hrels
        obtain ⟨u, _, hu0, hrel, rfl⟩ := hrels
        have hcta : ctypes = #[t] := by apply Array.ext'; simpa using hct
        rw [hex, hargsA, hu0, hcta]
        simp only [builtin]
        split at h <;> first | (cases h; done) | skip
        rename_i e hu
        cases h
        simp only [act] at hr
        split at hr
        · rename_i es xs e1
          rw [e1] at hrel; simp only [rel] at hrel
          obtain ⟨base, cap, rfl, _, ho⟩ := hrel
          simp only [ownRel] at ho
          subst ho
          have := just_run hr; subst this
          refine good_val (u := goInt xs.length) hI ?_ (by simp only [rel, goInt])
          simp [Builtin.cap_, run_underlying hu]
        · rename_i e1
          rw [e1] at hrel; simp only [rel] at hrel; subst hrel
          have := just_run hr; subst this
          refine good_val (u := goInt 0) hI ?_ (by simp [rel, goInt])
          simp [Builtin.cap_, run_underlying hu]
        · rename_i k es off len cap e1
          rw [e1] at hrel; simp only [rel] at hrel
          obtain ⟨bb, _, rfl⟩ := hrel
          have := just_run hr; subst this
          refine good_val (u := goInt cap) hI ?_ (by simp only [rel, goInt])
          simp [Builtin.cap_, run_underlying hu]
        · exact (fail_run hr).elim
      · -- append
        rename_i sl x t t' hct
        simp only [List.map_cons, List.map_nil, rels] at hrels
        obtain ⟨us, _, hu0, hrel1, u, _, rfl, hrel2, rfl⟩ := hrels
        have hcta : ctypes = #[t, t'] := by apply Array.ext'; simpa using hct
        rw [hex, hargsA, hu0, hcta]
        simp only [builtin]
        split at h <;> first | (cases h; done) | skip
        rename_i e he
        have hu : P.underlying t = some (.slice e) := by
          unfold elemT at he
          split at he
          · rename_i hh; cases he; exact hh
          · cases he
        split at h <;> first | (cases h; done) | skip
        · rename_i n bb e' hn hb hu'
          split at h <;> first | (cases h; done) | skip
          rename_i hc
          split at h
          · cases h
            simp only [act] at hr
            obtain ⟨⟨ys, ny⟩, l', hsrc, hr⟩ := bind_run hr
            exact good_appendR hI hu hu' trivial hn hb hc.2 hc.1 (rel_coerce hrel1) (rel_coerce hrel2) hsrc hr
          cases h
          simp only [act] at hr
          obtain ⟨ys, l', hsrc, hr⟩ := bind_run hr
          exact good_append hI hu hu' trivial hn hb hc.2 hc.1 (rel_coerce hrel1) (rel_coerce hrel2) hsrc hr
        · rename_i n bb hn hb hu'
          split at h <;> first | (cases h; done) | skip
          rename_i hc
          split at h
          · cases h
            simp only [act] at hr
            obtain ⟨⟨ys, ny⟩, l', hsrc, hr⟩ := bind_run hr
            exact good_appendR hI hu hu' trivial hn hb hc.2 hc.1 (rel_coerce hrel1) hrel2 hsrc hr
          cases h
          simp only [act] at hr
          obtain ⟨ys, l', hsrc, hr⟩ := bind_run hr
          exact good_append hI hu hu' trivial hn hb hc.2 hc.1 (rel_coerce hrel1) hrel2 hsrc hr
        · rename_i hn hb hu'
          split at h <;> first | (cases h; done) | skip
          rename_i z he8 hz
          split at h <;> first | (cases h; done) | skip
          rename_i hc
          obtain ⟨rfl, hc⟩ := hc
          cases h
          simp only [act] at hr
          split at hr
          · rename_i q e1
            rw [e1] at hrel2; simp only [rel] at hrel2
            subst hrel2
            split at hr
            · rename_i hq
              exact good_appendZ hI hu hu' hn hb hz hq.1 hq.2 (rel_coerce hrel1) hr
            · exact (fail_run hr).elim
          · exact (fail_run hr).elim
      · -- copy
        rename_i d x t t' hct
        simp only [List.map_cons, List.map_nil, rels] at hrels
        obtain ⟨ud, _, hu0, hrel1, u, _, rfl, hrel2, rfl⟩ := hrels
        have hcta : ctypes = #[t, t'] := by apply Array.ext'; simpa using hct
        rw [hex, hargsA, hu0, hcta]
        simp only [builtin]
        split at h <;> first | (cases h; done) | skip
        rename_i e he
        have hu : P.underlying t = some (.slice e) := by
          unfold elemT at he
          split at he
          · rename_i hh; cases he; exact hh
          · cases he
        split at h <;> first | (cases h; done) | skip
        rename_i n hn
        split at h <;> first | (cases h; done) | skip
        rename_i h0
        cases h
        simp only [act] at hr
        split at hr
        · rename_i k es off len cap e1
          rw [e1] at hrel1; simp only [rel] at hrel1
          obtain ⟨bb, hb, rfl⟩ := hrel1
          split at hr
          · rename_i hc
            obtain ⟨rfl, rfl⟩ := hc
            obtain ⟨ys, l', hsrc, hr⟩ := bind_run hr
            obtain ⟨o, ho, hr⟩ := get_run hr
            cases o <;> simp only at hr <;> try (exact (fail_run hr).elim)
            rename_i cs
            split at hr
            · rename_i hfit
              have := ret_run hr; simp only at this; subst this
              exact good_copy hI hu hn ho hb hrel2 hsrc rfl hfit
            · exact (fail_run hr).elim
          · exact (fail_run hr).elim
        · exact (fail_run hr).elim
      · -- delete
        rename_i m k t t' hct
        simp only [List.map_cons, List.map_nil, rels] at hrels
        obtain ⟨um, _, hu0, hrel1, uk, _, rfl, hrel2, rfl⟩ := hrels
        have hcta : ctypes = #[t, t'] := by apply Array.ext'; simpa using hct
        rw [hex, hargsA, hu0, hcta]
        simp only [builtin]
        split at h <;> first | (cases h; done) | skip
        rename_i kt vt hu
        simp only [Option.map_eq_some_iff] at h
        obtain ⟨kf, hkf, rfl⟩ := h
        exact good_delete hI hu hkf hr hrel1 hrel2
      · -- clear
        rename_i m t hct
        simp only [List.map_cons, List.map_nil, rels] at hrels
        obtain ⟨um, _, hu0, hrel1, rfl⟩ := hrels
        have hcta : ctypes = #[t] := by apply Array.ext'; simpa using hct
        rw [hex, hargsA, hu0, hcta]
        simp only [builtin]
        split at h <;> first | (cases h; done) | skip
        rename_i kt vt hu
        cases h
        simp only [act] at hr
        split at hr
        · rename_i e1
          rw [e1] at hrel1; simp only [rel] at hrel1; subst hrel1
          have := just_run hr; subst this
          refine good_val (u := .tuple #[]) hI ?_ (by simp [rel, rels])
          simp [Builtin.clear_, run_underlying hu]
        · rename_i key e1
          rw [e1] at hrel1; simp only [rel] at hrel1
          obtain ⟨bb, hb, rfl⟩ := hrel1
          obtain ⟨o, ho, hr⟩ := get_run hr
          cases o <;> simp only at hr <;> try (exact (fail_run hr).elim)
          rename_i es
          obtain ⟨ents, clock, hw, hmr⟩ := hI.map ho hb
          have hget : (getObj bb).run P w = .ok (.map ents clock) w := by simp [getObj, Sem.run, hw]
          have hset' : ∀ o, (setObj bb o).run P w = .ok () { w with heap := w.heap.setIfInBounds bb o } := fun o => by simp [setObj, Sem.run, hw]
          have hlt : bb < w.heap.size := by
            rcases Nat.lt_or_ge bb w.heap.size with h' | h'
            · exact h'
            · rw [Array.getElem?_eq_none h'] at hw; cases hw
          have := ret_run hr; simp only at this; subst this
          refine ⟨.tuple #[], { w with heap := w.heap.setIfInBounds bb (.map #[] clock) }, F, μ, .inl ?_, ?_, by simp [rel, rels]⟩
          · simp [Builtin.clear_, run_underlying hu, hget, hset']
          · refine Post.setBlk hI hb (by simp) (fun b' hb' => by simp [Array.getElem?_setIfInBounds_ne (Ne.symm hb')]) rfl rfl ?_
            exact ⟨#[], clock, by simp [hlt], by simp [mapRel]⟩
        · exact (fail_run hr).elim
        rename_i e hu
        split at h <;> first | (cases h; done) | skip
        rename_i n z hn hz
        split at h <;> first | (cases h; done) | skip
        rename_i hc
        cases h
        simp only [act] at hr
        exact good_clearRow hI hu hn hc.1 hz hc.2 hr hrel1
      · -- min
        rename_i x r _
        cases h
        simp only [List.map_cons, rels] at hrels
        obtain ⟨u, us, hu0, hrel1, hrel2⟩ := hrels
        rw [hex, hargsA, hu0]
        simp only [act] at hr
        obtain ⟨z, hz, rfl⟩ := ofOpt_run hr
        obtain ⟨v, hv, hvr⟩ := run_min (P := P) (w := w) hrel1 hrel2 hz
        simp only [builtin]
        exact good_val hI (by simpa [Builtin.min_] using hv) hvr
      · -- max
        rename_i x r _
        cases h
        simp only [List.map_cons, rels] at hrels
        obtain ⟨u, us, hu0, hrel1, hrel2⟩ := hrels
        rw [hex, hargsA, hu0]
        simp only [act] at hr
        obtain ⟨z, hz, rfl⟩ := ofOpt_run hr
        obtain ⟨v, hv, hvr⟩ := run_max (P := P) (w := w) hrel1 hrel2 hz
        simp only [builtin]
        exact good_val hI (by simpa [Builtin.max_] using hv) hvr
  all_goals (first | (simp at h; done) | (cases h; done))

end
end Go.Ev
