/-
  Each operation does in memory what it does on plain values: those that only look, and cuts.
-/
import Derived.Test.YtiiohfojejfolaaDoorEv8
set_option linter.unusedVariables false
set_option linter.unusedSimpArgs false
namespace Go.Ev
open Go
section
variable {P : Program} {w : World} {F : Frz} {μ : Mu} {σ : Store}

theorem ofOpt_run {x : Option V} {a : Ans} {l rd : List Key} (h : ((ofOpt x).bind Act.just).run σ l = some (a, rd)) : ∃ v, x = some v ∧ a = ⟨v, []⟩ := by
  cases x with
  | none => simp [ofOpt, Act.bind, Act.run] at h
  | some v => exact ⟨v, rfl, just_run h⟩

theorem good_nilCheck {x : V} {u : Value} {a : Ans} {l rd : List Key}
    (hr : (match x with
      | .ptr k off => Act.just (.ptr k off)
      | .elem cs => Act.just (.elem cs)
      | .func fn first captured => match fn with
        | .func _ => Act.just (.func fn first captured)
        | _ => .fail
      | _ => .fail : Act Ans).run σ l = some (a, rd)) (hx : rel F μ x u) : a = ⟨x, []⟩ ∧ ((∃ b, u = .pointer (some b)) ∨ ∃ f p q, u = .func (.func f) p q) := by
  cases x <;> simp only [Act.run, reduceCtorEq] at hr
  case ptr k off =>
    simp only [rel] at hx
    obtain ⟨b, _, rfl⟩ := hx
    exact ⟨just_run hr, .inl ⟨_, rfl⟩⟩
  case elem cs =>
    simp only [rel] at hx
    obtain ⟨b, o, rfl, _⟩ := hx
    exact ⟨just_run hr, .inl ⟨_, rfl⟩⟩
  case func fn f c =>
    simp only [rel] at hx
    obtain ⟨f', c', rfl, _⟩ := hx
    cases fn <;> simp only [Act.run, reduceCtorEq] at hr
    exact ⟨just_run hr, .inr ⟨_, _, _, rfl⟩⟩

theorem good_un {op : UnOp} {x z : V} {u : Value} (hx : rel F μ x u) (h : unV op x = some z) : (Op.unary op u).run P w = .ok z.val w ∧ z.flatCell = true := by
  unfold unV at h
  split at h <;> first | (cases h; done) | skip
  all_goals
    cases h
    simp only [rel] at hx
    subst hx
    exact ⟨by simp [Op.unary, Op.intArith, Op.intBits, V.val], rfl⟩

theorem rel_fieldAddr_elem {off : Nat} {cs : List V} {u : Value} (hx : rel F μ (.elem cs) u) : ∃ b o, u = .pointer (some ⟨b, o, none⟩) ∧ rel F μ (.elem (cs.drop off)) (.pointer (some ⟨b, o + off, none⟩)) := by
  simp only [rel] at hx
  obtain ⟨b, o, rfl, hc⟩ := hx
  exact ⟨b, o, rfl, by simp only [rel]; exact ⟨b, o + off, rfl, frz_drop hc⟩⟩

theorem run_fieldAt {t : TypeId} {f n b o : Nat} {fd : Field} (hf : fieldT P t f = some fd) (hn : sizeT P fd.type = some n) (h0 : n ≠ 0) :
    (Instr.fieldAt t (.pointer (some ⟨b, o, none⟩)) f).run P w = .ok (.pointer (some ⟨b, o + fd.offset, none⟩)) w := by
  unfold fieldT at hf
  split at hf
  · rename_i fs hu
    simp only [Instr.fieldAt, Sem.run_bind, run_underlying hu, Result.andThen_ok, hf, Instr.sureAddr, Sem.run_pure, fieldPlace, run_sizeOf' hn, h0, if_false, addr_add]
  · cases hf

theorem run_field {t : TypeId} {f n : Nat} {fd : Field} {us : List Value} (hf : fieldT P t f = some fd) (hn : sizeT P fd.type = some n) (h1 : aggT P fd.type = false → n = 1) (hl : fd.offset + n ≤ us.length) :
    (Instr.field t (.agg us.toArray) f).run P w = .ok (mkv P fd.type ((us.drop fd.offset).take n)) w := by
  unfold fieldT at hf
  split at hf
  · rename_i fs hu
    simp only [Instr.field, Sem.run_bind, run_underlying hu, Result.andThen_ok, hf, asAgg, Sem.run_pure, run_part hn h1 hl]
  · cases hf

theorem run_indexAt_slice' {t e : TypeId} {n b o len cap : Nat} {k : IntKind} {i : Int} (hu : P.underlying t = some (.slice e)) (hn : sizeT P e = some n) (h0 : 0 ≤ i) (hi : i < len) :
    (Instr.indexAt t (.slice (some ⟨b, o, none⟩) len cap) (.int k i)).run P w = .ok (.pointer (some ⟨b, o + i.toNat * n, none⟩)) w := by
  simp [Instr.indexAt, asIntOf, run_underlying hu, h0, hi, run_sizeOf' hn, addr_add]

theorem run_indexAt_array' {t e : TypeId} {n b o len : Nat} {k : IntKind} {i : Int} (hu : P.underlying t = some (.array len e)) (hn : sizeT P e = some n) (h0 : 0 ≤ i) (hi : i < len) :
    (Instr.indexAt t (.pointer (some ⟨b, o, none⟩)) (.int k i)).run P w = .ok (.pointer (some ⟨b, o + i.toNat * n, none⟩)) w := by
  simp [Instr.indexAt, asIntOf, run_underlying hu, h0, hi, run_sizeOf' hn, addr_add, Instr.sureAddr]


/-! ### cuts -/
def optRel (F : Frz) (μ : Mu) : Option V → Option Value → Prop
  | none, none => True
  | some x, some u => rel F μ x u
  | _, _ => False

theorem intArg_rel' {x : Option V} {u : Option Value} {r : Option Int} (h : intArg x = some r) (hx : optRel F μ x u) : (r = none ∧ u = none) ∨ ∃ n k, r = some n ∧ u = some (.int k n) := by
  cases x with
  | none => cases u with
    | none => simp [intArg] at h; exact .inl ⟨h.symm, rfl⟩
    | some u => exact hx.elim
  | some x => cases u with
    | none => exact hx.elim
    | some u =>
      cases x <;> simp only [intArg, reduceCtorEq, Option.some.injEq] at h
      subst h
      simp only [optRel, rel] at hx
      subst hx
      exact .inr ⟨_, _, rfl, rfl⟩

theorem run_sliceBound {k : IntKind} {i : Int} {y : Nat} {c : BoundsCode} (h0 : 0 ≤ i) (h1 : i ≤ y) : (Instr.sliceBound (.int k i) y c).run P w = .ok i.toNat w := by
  simp [Instr.sliceBound, asIntOf, h0, h1]

theorem run_cut {isS : Bool} {len cap : Nat} {lo hi mx : Option V} {ulo uhi umx : Option Value} {l h : Nat} {m : Option Nat} (hc : cut len lo hi mx = some (l, h, m)) (hle : len ≤ cap)
    (h1 : optRel F μ lo ulo) (h2 : optRel F μ hi uhi) (h3 : optRel F μ mx umx) : (Instr.sliceBounds isS len cap ulo uhi umx).run P w = .ok (l, h, m.getD cap) w ∧ l ≤ h ∧ h ≤ len ∧ (∀ x, m = some x → h ≤ x ∧ x ≤ len) := by
  unfold cut at hc
  split at hc
  · rename_i a b c ha hb hcx
    unfold cutAt at hc
    split at hc
    · rename_i hb3
      obtain ⟨g1, g2, g3⟩ := hb3
      rcases intArg_rel' ha h1 with ⟨rfl, rfl⟩ | ⟨n1, k1, rfl, rfl⟩ <;> rcases intArg_rel' hb h2 with ⟨rfl, rfl⟩ | ⟨n2, k2, rfl, rfl⟩ <;> rcases intArg_rel' hcx h3 with ⟨rfl, rfl⟩ | ⟨n3, k3, rfl, rfl⟩ <;>
        simp only [Option.getD_some, Option.getD_none, Option.isSome_some, Option.isSome_none, Bool.false_eq_true, false_and, true_and, if_false] at g1 g2 g3 hc
      all_goals first | (cases hc; done) | skip
      · cases hc
        refine ⟨?_, by omega, by omega, by simp⟩
        simp [Instr.sliceBounds]
      · cases hc
        refine ⟨?_, by omega, by omega, by simp⟩
        have hb2 : n2 ≤ (cap : Int) := by omega
        simp only [Instr.sliceBounds, Sem.run_bind, Sem.run_pure, Result.andThen_ok, run_sliceBound (k := k2) (i := n2) (y := cap) (by omega) hb2]
        simp
      · split at hc
        · rename_i hm
          cases hc
          refine ⟨?_, by omega, by omega, by intro x hx; cases hx; omega⟩
          have hb2 : n3 ≤ (cap : Int) := by omega
          have hb3 : n2 ≤ (n3.toNat : Int) := by omega
          simp only [Instr.sliceBounds, Sem.run_bind, Sem.run_pure, Result.andThen_ok, run_sliceBound (k := k3) (i := n3) (y := cap) (by omega) hb2, run_sliceBound (k := k2) (i := n2) (y := n3.toNat) (by omega) hb3]
          simp
        · cases hc
      · cases hc
        refine ⟨?_, by omega, by omega, by simp⟩
        have hb1 : n1 ≤ (len : Int) := by omega
        simp only [Instr.sliceBounds, Sem.run_bind, Sem.run_pure, Result.andThen_ok, run_sliceBound (k := k1) (i := n1) (y := len) (by omega) hb1]
        simp
      · cases hc
        refine ⟨?_, by omega, by omega, by simp⟩
        have hb2 : n2 ≤ (cap : Int) := by omega
        have hb1 : n1 ≤ (n2.toNat : Int) := by omega
        simp only [Instr.sliceBounds, Sem.run_bind, Sem.run_pure, Result.andThen_ok, run_sliceBound (k := k2) (i := n2) (y := cap) (by omega) hb2, run_sliceBound (k := k1) (i := n1) (y := n2.toNat) (by omega) hb1]
        simp
      · split at hc
        · rename_i hm
          cases hc
          refine ⟨?_, by omega, by omega, by intro x hx; cases hx; omega⟩
          have hb2 : n3 ≤ (cap : Int) := by omega
          have hb3 : n2 ≤ (n3.toNat : Int) := by omega
          have hb1 : n1 ≤ (n2.toNat : Int) := by omega
          simp only [Instr.sliceBounds, Sem.run_bind, Sem.run_pure, Result.andThen_ok, run_sliceBound (k := k3) (i := n3) (y := cap) (by omega) hb2, run_sliceBound (k := k2) (i := n2) (y := n3.toNat) (by omega) hb3, run_sliceBound (k := k1) (i := n1) (y := n2.toNat) (by omega) hb1]
          simp
        · cases hc
    · cases hc
  · cases hc

end
end Go.Ev
