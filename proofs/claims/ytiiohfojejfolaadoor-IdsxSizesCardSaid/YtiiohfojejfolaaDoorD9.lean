/-
  What is proved: what the functions of shas and of the document compute that hold two names against each other.
  Conditions: none.
-/
import Derived.Test.YtiiohfojejfolaaDoorD8
import Derived.Lib.BytesEntry
set_option linter.unusedVariables false
set_option linter.unusedSimpArgs false
namespace Go.Proofs.YtiiohfojejfolaaDoor
open Go Go.Ev Go.Proofs

/-! ### the machine's own Compare -/
def byteL (xs : List V) : List UInt8 := xs.map fun v => (numOf v).toNat.toUInt8
def cmpV (xs ys : List V) : Int := Extern.BytealgCompare.cmp ⟨(byteL xs).toArray⟩ ⟨(byteL ys).toArray⟩
def c133 : Contract := fun args objs =>
  match args, objs with
  | [.slc 1 xs .none, .slc 1 ys .none], [] => if kinds .u8 xs = true ∧ kinds .u8 ys = true then some (.int .i64 (cmpV xs ys), [], []) else none
  | _, _ => none

theorem cells_of_slc {F : Frz} {μ : Mu} {σ : Store} {w : World} {xs : List V} {u : Value} (hI : Inv F μ σ w) (hk : kinds .u8 xs = true) (h : rel F μ (.slc 1 xs .none) u) :
    (Extern.Bytes.bytesOf u).run Tryd.prog w = .ok ⟨(byteL xs).toArray⟩ w := by
  simp only [rel] at h
  obtain ⟨base, cap, rfl, hb, _⟩ := h
  cases base with
  | none =>
    obtain ⟨rfl, _⟩ := hb
    rfl
  | some a =>
    obtain ⟨hs, hf⟩ := hb
    rcases hs with hnil | hs
    · subst hnil
      rfl
    rw [frzE_iff] at hf
    have hcell : ∀ (l : List V) (o : Nat), kinds .u8 l = true → frz F a.block o (l.flatMap V.cellsOf) → ∀ (j : Nat) x, (l.map numOf)[j]? = some x → w.cell? ⟨a.block, o + j, none⟩ = some (.int .u8 x) := by
      intro l
      induction l with
      | nil => intro o _ _ j x hj; simp at hj
      | cons v r ih =>
        intro o hk hf j x hj
        simp only [kinds, List.all_cons, Bool.and_eq_true] at hk
        have hv : v = .int .u8 (numOf v) := by
          cases v <;> simp [isU] at hk
          simp [numOf, hk.1]
        rw [hv] at hf
        simp only [List.flatMap_cons, V.cellsOf, List.singleton_append, frz] at hf
        obtain ⟨⟨u, hu, hru⟩, hr⟩ := hf
        simp only [rel] at hru
        subst hru
        cases j with
        | zero =>
          simp only [List.map_cons, List.getElem?_cons_zero, Option.some.injEq] at hj
          subst hj
          simpa using (hI.frozen _ _ hu).2.1
        | succ j =>
          simp only [List.map_cons, List.getElem?_cons_succ] at hj
          have := ih (o + 1) (by simpa [kinds] using hk.2) hr j x hj
          rwa [show o + 1 + j = o + (j + 1) by omega] at this
    have hc := hcell xs a.off hk hf.2
    have ha : a = ⟨a.block, a.off, none⟩ := by cases a; simp_all
    have := Lib.run_loadBytesX (P := Tryd.prog) (w := w) (xs.map numOf) a .empty (fun j x hj => by
      have := hc j x hj
      have e : (⟨a.block, a.off, none⟩ : Addr).add j = ⟨a.block, a.off + j, none⟩ := by
        unfold Addr.add
        by_cases hj : j = 0
        · subst hj; simp
        · simp [hj]
      rw [ha, e]
      exact this)
    rw [List.length_map] at this
    refine this.trans ?_
    congr 1
    apply ByteArray.ext
    simp [byteL, Lib.bytesOf, ByteArray.empty, ByteArray.emptyWithCapacity]
    rfl

theorem h133' : HoldsX Tryd.prog G 133 c133 := by
  intro args objs r os ns h hl F μ w us hG hI hrel
  unfold c133 at h
  split at h
  · rename_i xs ys
    split at h
    · rename_i hk
      cases h
      simp only [rels] at hrel
      obtain ⟨u1, _, rfl, h1, u2, _, rfl, h2, rfl⟩ := hrel
      have b1 := cells_of_slc hI hk.1 h1
      have b2 := cells_of_slc hI hk.2 h2
      refine .inr ⟨.int .i64 (cmpV xs ys), w, ?_, _, F, μ, rfl, hI, Ext.refl .., Mu.le_refl _, by simp only [rel]⟩
      have hn : Extern.findNext Tryd.f133 = none := by kernel_rfl
      have hf : Extern.find Tryd.f133 = some Extern.BytealgCompare.compare := by kernel_rfl
      have hb : Tryd.f133.body.isNone = true := by kernel_rfl
      have hcmp : Extern.BytealgCompare.compare [u1, u2].toArray = (do pure (goInt (Extern.BytealgCompare.cmp (← Extern.Bytes.bytesOf u1) (← Extern.Bytes.bytesOf u2)))) := rfl
      have hne : (Tryd.f133.name == "runtime.NumGoroutine") = false := by kernel_rfl
      simp only [callFunc, Sem.run_bind, run_program, Result.andThen_ok, Tryd.func133, hne, hb, hn, hf, Bool.false_eq_true, if_false, if_true, run_mark, Sem.run_pure, hcmp, b1, b2, cmpV, goInt]
    · cases h
  · cases h
def C133 : FuncId → Option Contract := addC noC 133 c133
theorem s133 : Sound Tryd.prog G C133 := sound_noC.addX h133'
theorem h101' : Holds Tryd.prog G 101 c133 := (fn_holds s133 hM 4 Tryd.func101 p101 o101).less fun args objs x h => by
  have h0 := h
  unfold c133 at h
  split at h
  · rename_i xs ys
    split at h
    · cases h
      rw [run_endOf rfl]
      have e : evalCode C133 4 a101.code ⟨argTm 0 [.slc 1 xs .none, .slc 1 ys .none], argObjs 0 []⟩ = some (.ret, ⟨[(4, .int .i64 (cmpV xs ys)), (7, .int .i64 (cmpV xs ys)), (6, .slc 1 ys .none), (5, .slc 1 xs .none), (4, .int .i64 0), (0, .slc 1 xs .none), (1, .slc 1 ys .none)], []⟩) :=
        (ev_seq (ev_region rfl)).trans ((ev_seq (ev_region ((ops_cons rfl).trans ((ops_cons rfl).trans ((ops_cons (step_call (c := c133) (r := .int .i64 (cmpV xs ys)) (vs' := [.slc 1 xs .none, .slc 1 ys .none]) rfl rfl (fun _ _ => rfl) rfl rfl rfl h0 rfl)).trans ((ops_cons rfl).trans ops_nil)))))).trans rfl)
      rw [e]
      rfl
    · cases h
  · cases h
def C101 : FuncId → Option Contract := addC noC 101 c133
theorem s101 : Sound Tryd.prog G C101 := sound_noC.add Tryd.func101 (by kernel_rfl) h101'

/-! ### names of 32 bytes -/
def bl32 (b : Nat → Int) : List V := (List.range 32).map fun i => u8 (b i)
theorem bl32_of {xs : List V} (h1 : kinds .u8 xs = true) (h2 : xs.length = 32) : xs = bl32 fun i => (xs.map numOf).getD i 0 := by
  have h1 := kinds_map h1
  have h2 := list_range (xs := xs.map numOf) (n := 32) (by simpa using h2) 0
  unfold bl32
  conv => lhs; rw [h1, h2]
  rw [List.map_map]
  rfl
def two32 (f : List V → List V → V) : Contract := fun args objs =>
  match args, objs with
  | [.agg xs, .agg ys], [] => if kinds .u8 xs = true ∧ xs.length = 32 ∧ kinds .u8 ys = true ∧ ys.length = 32 then some (f xs ys, [], []) else none
  | _, _ => none
theorem two32_of {c : Contract} {f : List V → List V → V} {id : FuncId} (h : Holds Tryd.prog G id c) (hc : ∀ b d : Nat → Int, c [.agg (bl32 b), .agg (bl32 d)] [] = some (f (bl32 b) (bl32 d), [], [])) : Holds Tryd.prog G id (two32 f) := h.less fun args objs x hx => by
  unfold two32 at hx
  split at hx
  · rename_i xs ys
    split at hx
    · rename_i hk
      cases hx
      have h1 := bl32_of hk.1 hk.2.1
      have h2 := bl32_of hk.2.2.1 hk.2.2.2
      have := hc (fun i => (xs.map numOf).getD i 0) (fun i => (ys.map numOf).getD i 0)
      rw [← h1, ← h2] at this
      exact this
    · cases hx
  · cases hx
def c54 : Contract := two32 fun xs ys => .int .i64 (cmpV xs ys)
theorem h54' : Holds Tryd.prog G 54 c54 := two32_of (fn_holds s101 hM 4 Tryd.func54 p54 o54) fun b d =>
  congrFun (congrFun (show (fun b d => AFn.run 4 C101 a54 [.agg (bl32 b), .agg (bl32 d)] []) = (fun b d => some (.int .i64 (cmpV (bl32 b) (bl32 d)), [], [])) by kernel_rfl) b) d
def C54 : FuncId → Option Contract := addC noC 54 c54
theorem s54 : Sound Tryd.prog G C54 := sound_noC.add Tryd.func54 (by kernel_rfl) h54'
def c16 : Contract := two32 fun xs ys => .bool (decide (cmpV xs ys < 0))
theorem h16' : Holds Tryd.prog G 16 c16 := two32_of (fn_holds s54 hM 4 Tryd.func16 p16 o16) fun b d =>
  congrFun (congrFun (show (fun b d => AFn.run 4 C54 a16 [.agg (bl32 b), .agg (bl32 d)] []) = (fun b d => some (.bool (decide (cmpV (bl32 b) (bl32 d) < 0)), [], [])) by kernel_rfl) b) d
def strV (xs : List V) : ByteArray := ⟨(xs.map fun v => UInt8.ofNat (numOf v).toNat).toArray⟩
def c21 : Contract := two32 fun xs ys => .bool (Op.bytesLess (strV xs).toList (strV ys).toList)
theorem h21' : Holds Tryd.prog G 21 c21 := two32_of (fn_holds (sound_noC (P := Tryd.prog) (G := G)) hM 4 Tryd.func21 p21 o21) fun b d =>
  congrFun (congrFun (show (fun b d => AFn.run 4 noC a21 [.agg (bl32 b), .agg (bl32 d)] []) = (fun b d => some (.bool (Op.bytesLess (strV (bl32 b)).toList (strV (bl32 d)).toList), [], [])) by kernel_rfl) b) d

/-! ### sums of sums -/
theorem shaV_kinds (xs : List V) : kinds .u8 (shaV xs) = true := rfl
theorem shaV_len (xs : List V) : (shaV xs).length = 32 := rfl
def c15b : Contract := c15
end Go.Proofs.YtiiohfojejfolaaDoor
