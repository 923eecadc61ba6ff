/-
  What is proved: what Twice computes, of both, and that what the document fixes of the sums (awake) is so.
  Conditions: none.
-/
import Derived.Test.YtiiohfojejfolaaDoorD9
set_option linter.unusedVariables false
set_option linter.unusedSimpArgs false
namespace Go.Proofs.YtiiohfojejfolaaDoor
open Go Go.Ev Go.Proofs

theorem ev_step {C : FuncId → Option Contract} {fuel : Nat} {s s1 : St} {o : AOper} {ops : List AOper} {r : ACode} {rd wr : List Key} (h : Go.Ev.step C s o = some (s1, rd, wr)) : evalCode C fuel (.seq (.region (o :: ops)) r) s = evalCode C fuel (.seq (.region ops) r) s1 := by
  simp only [evalCode, runOps, h]
def dropOps : Nat → ACode → ACode
  | n, .seq (.region l) r => .seq (.region (l.drop n)) r
  | _, c => c

def preOps : Nat → ACode → List AOper
  | n, .seq (.region l) _ => l.take n
  | _, _ => []
def isReg : ACode → Bool
  | .seq (.region _) _ => true
  | _ => false
theorem runOps_append {C : FuncId → Option Contract} : ∀ (l1 l2 : List AOper) (s t : St), runOps C s l1 = some t → runOps C s (l1 ++ l2) = runOps C t l2
  | [], l2, s, t, h => by simp only [runOps, Option.some.injEq] at h; subst h; rfl
  | o :: r, l2, s, t, h => by
    simp only [runOps, List.cons_append] at h ⊢
    split at h
    · exact runOps_append r l2 _ _ h
    · cases h
theorem ev_pre {C : FuncId → Option Contract} {fuel : Nat} {s t : St} (n : Nat) (c : ACode) (hc : isReg c = true) (h : runOps C s (preOps n c) = some t) : evalCode C fuel c s = evalCode C fuel (dropOps n c) t := by
  unfold isReg at hc
  split at hc
  · rename_i l r
    simp only [preOps] at h
    simp only [dropOps, evalCode]
    have : runOps C s l = runOps C t (l.drop n) := by
      have := runOps_append _ (l.drop n) _ _ h
      rwa [List.take_append_drop] at this
    rw [this]
  · cases hc
/-- The first part of two, and what is behind. -/
def isSeq : ACode → Bool
  | .seq _ _ => true
  | _ => false
theorem ev_fst {C : FuncId → Option Contract} {fuel : Nat} {s t : St} (c : ACode) (hc : isSeq c = true) (h : evalCode C fuel (fst1 c) s = some (.normal, t)) : evalCode C fuel c s = evalCode C fuel (rt 1 c) t := by
  unfold isSeq at hc
  split at hc
  · simp only [fst1] at h
    simp only [rt, evalCode, h]
  · cases hc

def C15 : FuncId → Option Contract := addC noC 15 c15
theorem s15 : Sound Tryd.prog G C15 := sound_noC.add Tryd.func15 (by kernel_rfl) h15'
def c19 : Contract := fun args objs =>
  match args, objs with
  | [.slc 1 xs .none], [] => if kinds .u8 xs = true ∧ xs.length ≤ lim then some (.agg (shaV (shaV xs)), [], []) else none
  | _, _ => none
theorem rest19 : (fun (h : W8) (x y : V) => endOf a19 (evalCode C15 4 (dropOps 2 (rt 1 a19.code)) ⟨[(5, .agg (outV h)), (4, x), (2, pt 2), (0, y)], [(.loc 2 0, .cells z32)]⟩)) = fun h x y => some (.agg (shaV (outV h)), [], []) := by kernel_rfl
theorem h19' : Holds Tryd.prog G 19 c19 := (fn_holds s15 hM 4 Tryd.func19 p19 o19).less fun args objs x h => by
  unfold c19 at h
  split at h
  · rename_i xs
    split at h
    · rename_i hx
      cases h
      rw [run_endOf rfl]
      have e : evalCode C15 4 a19.code ⟨argTm 0 [.slc 1 xs .none], argObjs 0 []⟩ = evalCode C15 4 (dropOps 2 (rt 1 a19.code)) ⟨[(5, .agg (shaV xs)), (4, .slc 1 xs .none), (2, pt 2), (0, .slc 1 xs .none)], [(.loc 2 0, .cells z32)]⟩ :=
        (ev_seq (ev_region rfl)).trans ((ev_step rfl).trans (ev_step (step_call (c := c15) (r := .agg (shaV xs)) (vs' := [.slc 1 xs .none]) rfl rfl (fun _ _ => rfl) rfl rfl rfl (by simp only [c15, if_pos hx]) rfl)))
      rw [e]
      exact congrFun (congrFun (congrFun rest19 (foldH (padded xs) (nBlocks (padded xs)))) _) _
    · cases h
  · cases h
def C18 : FuncId → Option Contract := addC noC 18 c18
theorem s18 : Sound Tryd.prog G C18 := sound_noC.add Tryd.func18 (by kernel_rfl) h18'
theorem rest20 : (fun (h : W8) (x y : V) => endOf a20 (evalCode C18 4 (dropOps 2 (rt 1 a20.code)) ⟨[(5, .agg (outV h)), (4, x), (2, pt 2), (0, y)], [(.loc 2 0, .cells z32)]⟩)) = fun h x y => some (.agg (shaV (outV h)), [], []) := by kernel_rfl
theorem h20' : Holds Tryd.prog G 20 c19 := (fn_holds s18 hM 4 Tryd.func20 p20 o20).less fun args objs x h => by
  unfold c19 at h
  split at h
  · rename_i xs
    split at h
    · rename_i hx
      cases h
      rw [run_endOf rfl]
      have e : evalCode C18 4 a20.code ⟨argTm 0 [.slc 1 xs .none], argObjs 0 []⟩ = evalCode C18 4 (dropOps 2 (rt 1 a20.code)) ⟨[(5, .agg (shaV xs)), (4, .slc 1 xs .none), (2, pt 2), (0, .slc 1 xs .none)], [(.loc 2 0, .cells z32)]⟩ :=
        (ev_seq (ev_region rfl)).trans ((ev_step rfl).trans (ev_step (step_call (c := c18) (r := .agg (shaV xs)) (vs' := [.slc 1 xs .none]) rfl rfl (fun _ _ => rfl) rfl rfl rfl (by simp only [c18, if_pos hx]) rfl)))
      rw [e]
      exact congrFun (congrFun (congrFun rest20 (foldH (padded xs) (nBlocks (padded xs)))) _) _
    · cases h
  · cases h

/-! ### awake -/
def C16 : FuncId → Option Contract := addC (addC C15 19 c19) 16 c16
theorem s16 : Sound Tryd.prog G C16 := (s15.add Tryd.func19 (by kernel_rfl) h19').add Tryd.func16 (by kernel_rfl) h16'
def c17 : Contract := fun args objs =>
  match args, objs with
  | [], [] => some (.bool true, [], [])
  | _, _ => none
theorem f17 : AFn.run 4 C16 a17 [] [] = some (.bool true, [], []) := by kernel_rfl
theorem h17' : Holds Tryd.prog G 17 c17 := (fn_holds s16 hM 4 Tryd.func17 p17 o17).less fun args objs x h => by
  unfold c17 at h
  split at h
  · cases h; exact f17
  · cases h
end Go.Proofs.YtiiohfojejfolaaDoor
