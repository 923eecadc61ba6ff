/-
  What is proved: what ShasOrder answers, for any arguments: true.
  Conditions: none.
-/
import Derived.Test.YtiiohfojejfolaaDoorE3
set_option linter.unusedVariables false
set_option linter.unusedSimpArgs false
namespace Go.Proofs.YtiiohfojejfolaaDoor
open Go Go.Ev Go.Proofs

def C4 : FuncId → Option Contract := addC (addC noC 16 c16) 17 c17
theorem s4 : Sound Tryd.prog G C4 := (sound_noC.add Tryd.func16 (by kernel_rfl) h16').add Tryd.func17 (by kernel_rfl) h17'
def zf (b c : Nat → Int) (k : Nat) : Nat → Int := fun i => if i = k then c i else b i
def sA (b c : Nat → Int) (w : Int) (k : Int) : St :=
  ⟨[(8, pt 8), (11, .agg (bl32 b)), (7, .int .i64 k), (10, .int .i64 k), (9, .int .i64 w), (6, .bool false), (4, pt 4), (3, pt 3), (0, .agg (bl32 b)), (1, .agg (bl32 c)), (2, .int .i64 w)],
   [(.loc 3 0, .cells (bl32 b)), (.loc 4 0, .cells (bl32 c)), (.loc 8 0, .cells (bl32 b))]⟩
def sB (b c : Nat → Int) (w : Int) (k : Nat) : St :=
  ⟨(16, .ptr (.loc 8 0) k) :: (15, u8 (c k)) :: (14, .ptr (.loc 4 0) k) :: (13, .int .i64 (k : Int)) :: (12, .int .i64 (k : Int)) :: (sA b c w (k : Int)).tm, [(.loc 3 0, .cells (bl32 b)), (.loc 4 0, .cells (bl32 c)), (.loc 8 0, .cells (bl32 (zf b c k)))]⟩
theorem k4_0 : (fun b c w => evalCode C4 4 (fst1 a4.code) ⟨argTm 0 [.agg (bl32 b), .agg (bl32 c), .int .i64 w], argObjs 0 []⟩) = fun b c w => some (.normal, ⟨[(6, .bool false), (4, pt 4), (3, pt 3), (0, .agg (bl32 b)), (1, .agg (bl32 c)), (2, .int .i64 w)], [(.loc 3 0, .cells (bl32 b)), (.loc 4 0, .cells (bl32 c))]⟩) := by kernel_rfl
theorem k4_1 : (fun b c w => evalCode C4 4 (fst1 (rt 1 a4.code)) ⟨[(6, .bool false), (4, pt 4), (3, pt 3), (0, .agg (bl32 b)), (1, .agg (bl32 c)), (2, .int .i64 w)], [(.loc 3 0, .cells (bl32 b)), (.loc 4 0, .cells (bl32 c))]⟩) =
    fun b c w => some (.normal, ⟨[(7, .int .i64 (andI w 31)), (10, .int .i64 (andI w 31)), (9, .int .i64 w), (6, .bool false), (4, pt 4), (3, pt 3), (0, .agg (bl32 b)), (1, .agg (bl32 c)), (2, .int .i64 w)], [(.loc 3 0, .cells (bl32 b)), (.loc 4 0, .cells (bl32 c))]⟩) := by kernel_rfl
theorem k4_2 : (fun b c w => evalCode C4 4 (fst1 (rt 2 a4.code)) ⟨[(7, .int .i64 (andI w 31)), (10, .int .i64 (andI w 31)), (9, .int .i64 w), (6, .bool false), (4, pt 4), (3, pt 3), (0, .agg (bl32 b)), (1, .agg (bl32 c)), (2, .int .i64 w)], [(.loc 3 0, .cells (bl32 b)), (.loc 4 0, .cells (bl32 c))]⟩) =
    fun b c w => some (.normal, sA b c w (andI w 31)) := by kernel_rfl

theorem runLog_append {C : FuncId → Option Contract} : ∀ (l1 l2 : List AOper) (s t : St) (acc r : List (List Key × List Key)), runLog C s l1 acc = some (t, r) → runLog C s (l1 ++ l2) acc = runLog C t l2 r.reverse
  | [], l2, s, t, acc, r, h => by
    simp only [runLog, Option.some.injEq, Prod.mk.injEq] at h
    obtain ⟨rfl, rfl⟩ := h
    rw [List.reverse_reverse]
    rfl
  | o :: q, l2, s, t, acc, r, h => by
    simp only [runLog, List.cons_append] at h ⊢
    split at h
    · exact runLog_append q l2 _ _ _ _ h
    · cases h

/-! ### the first test -/
def d1 : ACode := fst1 (fst1 (rt 4 a4.code))
def d1ops : List AOper := match d1 with | .drawn l _ => l | _ => []
def d1free : List Nat := match d1 with | .drawn _ f => f | _ => []
def stOf (r : Option (St × List (List Key × List Key))) : St := match r with | some (s, _) => s | none => ⟨[], []⟩
def logOf (r : Option (St × List (List Key × List Key))) : List (List Key × List Key) := match r with | some (_, l) => l | none => []
def f0 : Nat → Int := fun _ => 0
def lA : List (List Key × List Key) := logOf (runLog C4 (sB f0 f0 0 0) (d1ops.take 12) [])
def sC (b c : Nat → Int) (w : Int) (k : Nat) (e : Bool) : St :=
  ⟨(28, .bool e) :: (27, .bool e) :: (stOf (runLog C4 (sB b c w k) (d1ops.take 10) [])).tm, (sB b c w k).st⟩
def sD (b c : Nat → Int) (w : Int) (k : Nat) (e : Bool) : St :=
  ⟨(40, .bool e) :: (stOf (runLog C4 (sC b c w k false) ((d1ops.drop 12).take 11) [])).tm, (sB b c w k).st⟩
def lB : List (List Key × List Key) := logOf (runLog C4 (sC f0 f0 0 0 false) (d1ops.drop 12) lA.reverse)
def e1 (b c : Nat → Int) (k : Nat) : Bool := !((decide (cmpV (bl32 b) (bl32 (zf b c k)) < 0)) == decide (b k < c k))
def e2 (b c : Nat → Int) (k : Nat) : Bool := !((decide (cmpV (bl32 (zf b c k)) (bl32 b) < 0)) == decide (c k < b k))
theorem okB : okPairs lB d1free = true := by kernel_rfl
theorem cases32 {p : Nat → Prop} (h : p 0 ∧ p 1 ∧ p 2 ∧ p 3 ∧ p 4 ∧ p 5 ∧ p 6 ∧ p 7 ∧ p 8 ∧ p 9 ∧ p 10 ∧ p 11 ∧ p 12 ∧ p 13 ∧ p 14 ∧ p 15 ∧ p 16 ∧ p 17 ∧ p 18 ∧ p 19 ∧ p 20 ∧ p 21 ∧ p 22 ∧ p 23 ∧ p 24 ∧ p 25 ∧ p 26 ∧ p 27 ∧ p 28 ∧ p 29 ∧ p 30 ∧ p 31) (k : Nat) (hk : k < 32) : p k := by
  obtain ⟨h0, h1, h2, h3, h4, h5, h6, h7, h8, h9, h10, h11, h12, h13, h14, h15, h16, h17, h18, h19, h20, h21, h22, h23, h24, h25, h26, h27, h28, h29, h30, h31⟩ := h
  match k, hk with
  | 0, _ => exact h0
  | 1, _ => exact h1
  | 2, _ => exact h2
  | 3, _ => exact h3
  | 4, _ => exact h4
  | 5, _ => exact h5
  | 6, _ => exact h6
  | 7, _ => exact h7
  | 8, _ => exact h8
  | 9, _ => exact h9
  | 10, _ => exact h10
  | 11, _ => exact h11
  | 12, _ => exact h12
  | 13, _ => exact h13
  | 14, _ => exact h14
  | 15, _ => exact h15
  | 16, _ => exact h16
  | 17, _ => exact h17
  | 18, _ => exact h18
  | 19, _ => exact h19
  | 20, _ => exact h20
  | 21, _ => exact h21
  | 22, _ => exact h22
  | 23, _ => exact h23
  | 24, _ => exact h24
  | 25, _ => exact h25
  | 26, _ => exact h26
  | 27, _ => exact h27
  | 28, _ => exact h28
  | 29, _ => exact h29
  | 30, _ => exact h30
  | 31, _ => exact h31
  | n + 32, h => omega
theorem seg3 : ∀ (k : Nat), k < 32 → (fun b c w => evalCode C4 4 (fst1 (rt 3 a4.code)) (sA b c w (k : Int))) = fun b c w => some (.normal, sB b c w k) :=
  cases32 (by repeat (first | refine ⟨by kernel_rfl, ?_⟩ | kernel_rfl))
theorem segA : ∀ (k : Nat), k < 32 → (fun b c w => runLog C4 (sB b c w k) (d1ops.take 12) []) = fun b c w => some (sC b c w k (e1 b c k), lA) :=
  cases32 (by repeat (first | refine ⟨by kernel_rfl, ?_⟩ | kernel_rfl))
theorem segB : ∀ (k : Nat), k < 32 → (fun b c w => runLog C4 (sC b c w k false) (d1ops.drop 12) lA.reverse) = fun b c w => some (sD b c w k (e2 b c k), lB) :=
  cases32 (by repeat (first | refine ⟨by kernel_rfl, ?_⟩ | kernel_rfl))
theorem d1_eq : d1 = .drawn d1ops d1free := by kernel_rfl
theorem first4 (b c : Nat → Int) (w : Int) (k : Nat) (hk : k < 32) (h1 : e1 b c k = false) (h2 : e2 b c k = false) :
    evalCode C4 4 d1 (sB b c w k) = some (.normal, sD b c w k false) := by
  rw [d1_eq]
  refine ev_drawn (logs := lB) ?_ okB
  have a1 := congrFun (congrFun (congrFun (segA k hk) b) c) w
  have a2 := congrFun (congrFun (congrFun (segB k hk) b) c) w
  have hd : d1ops = d1ops.take 12 ++ d1ops.drop 12 := (List.take_append_drop 12 d1ops).symm
  rw [hd]
  refine (runLog_append _ _ _ _ _ _ a1).trans ?_
  rw [h1]
  exact a2.trans (by rw [h2])
end Go.Proofs.YtiiohfojejfolaaDoor
