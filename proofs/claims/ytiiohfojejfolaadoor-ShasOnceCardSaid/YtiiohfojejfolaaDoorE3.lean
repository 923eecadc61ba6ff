/-
  What is proved: what ShasOrder answers, for any arguments: true. The order of rows of bytes.
  Conditions: none.
-/
import Derived.Test.YtiiohfojejfolaaDoorE2
set_option linter.unusedVariables false
set_option linter.unusedSimpArgs false
namespace Go.Proofs.YtiiohfojejfolaaDoor
open Go Go.Ev Go.Proofs

/-! ### the order -/
theorem cmp_find (la lb : List UInt8) : ((List.range (min la.length lb.length)).find? fun i => la[i]! != lb[i]!) = (match la, lb with
    | a :: x, b :: y => if a = b then ((List.range (min x.length y.length)).find? fun i => x[i]! != y[i]!).map (· + 1) else some 0
    | _, _ => none) := by
  cases la with
  | nil => simp
  | cons a x =>
    cases lb with
    | nil => simp
    | cons b y =>
      simp only [List.length_cons]
      rw [show min (x.length + 1) (y.length + 1) = min x.length y.length + 1 by omega, List.range_succ_eq_map, List.find?_cons]
      by_cases h : a = b
      · subst h
        simp only [List.getElem!_cons_zero, bne_self_eq_false, if_true, List.find?_map]
        congr 1
      · have hb : (a != b) = true := by simp [h]
        simp only [List.getElem!_cons_zero, hb, if_neg h]

def cmpL (la lb : List UInt8) : Int := Extern.BytealgCompare.cmp ⟨la.toArray⟩ ⟨lb.toArray⟩
theorem cmpL_eq (la lb : List UInt8) : cmpL la lb = (match ((List.range (min la.length lb.length)).find? fun i => la[i]! != lb[i]!) with
    | some i => if la[i]! < lb[i]! then -1 else 1
    | none => if la.length < lb.length then -1 else if la.length > lb.length then 1 else 0) := by
  have hg : ∀ (l : List UInt8) (i : Nat), (⟨l.toArray⟩ : ByteArray)[i]! = l[i]! := fun l i => by
    by_cases h : i < l.length
    · have h' : i < (⟨l.toArray⟩ : ByteArray).size := h
      rw [getElem!_pos _ i h', getElem!_pos l i h]
      rfl
    · have h' : ¬ i < (⟨l.toArray⟩ : ByteArray).size := h
      rw [getElem!_neg _ i h', getElem!_neg l i h]
  unfold cmpL Extern.BytealgCompare.cmp
  simp only [hg]
  rfl
theorem cmpL_lt : ∀ (la lb : List UInt8), decide (cmpL la lb < 0) = Op.bytesLess la lb
  | [], [] => rfl
  | [], b :: y => by rw [cmpL_eq, cmp_find]; simp [Op.bytesLess]
  | a :: x, [] => by rw [cmpL_eq, cmp_find]; simp [Op.bytesLess]
  | a :: x, b :: y => by
    have ih := cmpL_lt x y
    rw [cmpL_eq, cmp_find]
    simp only [Op.bytesLess]
    by_cases h : a = b
    · subst h
      have hf : ¬ a < a := by simp
      simp only [if_true, hf, decide_false, Bool.false_or, beq_self_eq_true, Bool.true_and]
      rw [← ih, cmpL_eq]
      cases ((List.range (min x.length y.length)).find? fun i => x[i]! != y[i]!) with
      | none => simp
      | some i => simp
    · have hb : (a == b) = false := by simp [h]
      simp only [if_neg h, List.getElem!_cons_zero, hb, Bool.false_and, Bool.or_false]
      by_cases hl : a < b <;> simp [hl]
theorem cmpV_lt (xs ys : List V) : decide (cmpV xs ys < 0) = Op.bytesLess (byteL xs) (byteL ys) := cmpL_lt _ _

theorem less_asymm : ∀ (x y : List UInt8), Op.bytesLess x y = true → Op.bytesLess y x = false
  | [], [], h => by simp [Op.bytesLess] at h
  | [], _ :: _, _ => by simp [Op.bytesLess]
  | _ :: _, [], h => by simp [Op.bytesLess] at h
  | a :: x, b :: y, h => by
    simp only [Op.bytesLess, Bool.or_eq_true, Bool.and_eq_true, decide_eq_true_eq, beq_iff_eq] at h
    simp only [Op.bytesLess, Bool.or_eq_false_iff, Bool.and_eq_false_iff, decide_eq_false_iff_not]
    rcases h with h | ⟨rfl, h⟩
    · exact ⟨fun h2 => by rw [UInt8.lt_iff_toNat_lt] at h h2; omega, .inl (by simp; rintro rfl; simp at h)⟩
    · exact ⟨by simp, .inr (less_asymm x y h)⟩
theorem less_total : ∀ (x y : List UInt8), x.length = y.length → Op.bytesLess x y = false → Op.bytesLess y x = false → x = y
  | [], [], _, _, _ => rfl
  | [], _ :: _, h, _, _ => by simp at h
  | _ :: _, [], h, _, _ => by simp at h
  | a :: x, b :: y, hl, h1, h2 => by
    simp only [Op.bytesLess, Bool.or_eq_false_iff, Bool.and_eq_false_iff, decide_eq_false_iff_not] at h1 h2
    have hab : a = b := by
      have g1 := h1.1
      have g2 := h2.1
      rw [UInt8.lt_iff_toNat_lt] at g1 g2
      exact UInt8.toNat_inj.1 (by omega)
    subst hab
    rw [less_total x y (by simpa using hl) (by simpa using h1.2) (by simpa using h2.2)]
theorem less_self (x : List UInt8) : Op.bytesLess x x = false := by
  cases h : Op.bytesLess x x with
  | false => rfl
  | true => have := less_asymm x x h; rw [h] at this; cases this
theorem less_set : ∀ (x : List UInt8) (k : Nat) (v : UInt8), (h : k < x.length) → Op.bytesLess x (x.set k v) = decide (x[k] < v) ∧ Op.bytesLess (x.set k v) x = decide (v < x[k])
  | [], k, v, h => by simp at h
  | a :: x, 0, v, h => by
    simp only [List.set_cons_zero, Op.bytesLess, List.getElem_cons_zero, less_self, Bool.and_false, Bool.or_false, and_self]
  | a :: x, k + 1, v, h => by
    have ih := less_set x k v (by simpa using h)
    simp only [List.set_cons_succ, Op.bytesLess, List.getElem_cons_succ, ih.1, ih.2]
    simp
end Go.Proofs.YtiiohfojejfolaaDoor
