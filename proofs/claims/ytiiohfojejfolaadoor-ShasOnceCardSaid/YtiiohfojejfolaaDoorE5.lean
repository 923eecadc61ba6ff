/-
  What is proved: what ShasOrder answers, for any arguments: true.
  Conditions: none.
-/
import Derived.Test.YtiiohfojejfolaaDoorE4
set_option linter.unusedVariables false
set_option linter.unusedSimpArgs false
namespace Go.Proofs.YtiiohfojejfolaaDoor
open Go Go.Ev Go.Proofs

/-! ### the second test -/
def r2c : ACode := fst1 (fst1 (rt 5 a4.code))
def r2ops : List AOper := match r2c with | .region l => l | _ => []
def stOf' (r : Option St) : St := match r with | some s => s | none => ⟨[], []⟩
def ob (b c : Nat → Int) (k : Nat) : Store := [(.loc 3 0, .cells (bl32 b)), (.loc 4 0, .cells (bl32 c)), (.loc 8 0, .cells (bl32 (zf b c k)))]
def sG (b c : Nat → Int) (w : Int) (k : Nat) (e : Bool) : St :=
  ⟨(44, .bool e) :: (43, .bool e) :: (stOf' (runOps C4 (sD b c w k false) (r2ops.take 2))).tm, ob b c k⟩
def lxy (b c : Nat → Int) : Bool := decide (cmpV (bl32 b) (bl32 c) < 0)
theorem g1 : ∀ (k : Nat), k < 32 → (fun b c w => runOps C4 (sD b c w k false) (r2ops.take 4)) = fun b c w => some (sG b c w k (lxy b c)) :=
  cases32 (by repeat (first | refine ⟨by kernel_rfl, ?_⟩ | kernel_rfl))
-- the first is less
def sH (b c : Nat → Int) (w : Int) (k : Nat) (e : Bool) : St :=
  ⟨(49, .bool e) :: (48, .bool e) :: (stOf' (runOps C4 (sG b c w k true) ((r2ops.drop 4).take 3))).tm, ob b c k⟩
theorem g2 : ∀ (k : Nat), k < 32 → (fun b c w => runOps C4 (sG b c w k true) ((r2ops.drop 4).take 5)) = fun b c w => some (sH b c w k (lxy c b)) :=
  cases32 (by repeat (first | refine ⟨by kernel_rfl, ?_⟩ | kernel_rfl))
def sI (b c : Nat → Int) (w : Int) (k : Nat) (e : Bool) : St :=
  ⟨(54, .bool e) :: (53, .bool e) :: (stOf' (runOps C4 (sH b c w k false) ((r2ops.drop 9).take 3))).tm, ob b c k⟩
theorem g3 : ∀ (k : Nat), k < 32 → (fun b c w => runOps C4 (sH b c w k false) ((r2ops.drop 9).take 5)) = fun b c w => some (sI b c w k (!lxy b c)) :=
  cases32 (by repeat (first | refine ⟨by kernel_rfl, ?_⟩ | kernel_rfl))
-- the first is not less
def sJ (b c : Nat → Int) (w : Int) (k : Nat) (e : Bool) : St :=
  ⟨(54, .bool e) :: (53, .bool e) :: (stOf' (runOps C4 (sG b c w k false) ((r2ops.drop 4).take 8))).tm, ob b c k⟩
theorem g4 : ∀ (k : Nat), k < 32 → (fun b c w => runOps C4 (sG b c w k false) ((r2ops.drop 4).take 10)) = fun b c w => some (sJ b c w k (!lxy b c)) :=
  cases32 (by repeat (first | refine ⟨by kernel_rfl, ?_⟩ | kernel_rfl))
def sK (b c : Nat → Int) (w : Int) (k : Nat) (e : Bool) : St :=
  ⟨(60, .bool e) :: (59, .bool e) :: (58, .bool e) :: (stOf' (runOps C4 (sJ b c w k true) ((r2ops.drop 14).take 3))).tm, ob b c k⟩
theorem g5 : ∀ (k : Nat), k < 32 → (fun b c w => runOps C4 (sJ b c w k true) ((r2ops.drop 14).take 6)) = fun b c w => some (sK b c w k (!lxy c b)) :=
  cases32 (by repeat (first | refine ⟨by kernel_rfl, ?_⟩ | kernel_rfl))
def sL (b c : Nat → Int) (w : Int) (k : Nat) : St := stOf' (runOps C4 (sK b c w k true) ((r2ops.drop 20).take 2))
theorem g6 : ∀ (k : Nat), k < 32 → (fun b c w => runOps C4 (sK b c w k true) ((r2ops.drop 20).take 2)) = fun b c w => some (sL b c w k) :=
  cases32 (by repeat (first | refine ⟨by kernel_rfl, ?_⟩ | kernel_rfl))
theorem g7 : ∀ (k : Nat), k < 32 → (fun b c w => ((sL b c w k).tm.at 60, (sL b c w k).tm.at 61, (sL b c w k).tm.at 62)) = fun b c w => (V.bool true, V.agg (bl32 b), V.agg (bl32 c)) :=
  cases32 (by repeat (first | refine ⟨by kernel_rfl, ?_⟩ | kernel_rfl))
def sM (b c : Nat → Int) (w : Int) (k : Nat) (e : Bool) : St := ⟨(63, .bool e) :: (sL b c w k).tm, (sL b c w k).st⟩

/-- What is behind the tests. -/
def endR (s : Option St) : Option (V × List Ev.Obj × List Ev.Obj) := match s with
  | some s => endOf a4 (evalCode C4 4 (.seq (rt 1 (fst1 (rt 5 a4.code))) (rt 6 a4.code)) s)
  | none => none
theorem t1 : ∀ (k : Nat), k < 32 → (fun b c w => endR (runOps C4 (sI b c w k false) (r2ops.drop 14))) = fun b c w => some (.bool true, [], []) :=
  cases32 (by repeat (first | refine ⟨by kernel_rfl, ?_⟩ | kernel_rfl))
theorem t2 : ∀ (k : Nat), k < 32 → (fun b c w => endR (runOps C4 (sK b c w k false) (r2ops.drop 20))) = fun b c w => some (.bool true, [], []) :=
  cases32 (by repeat (first | refine ⟨by kernel_rfl, ?_⟩ | kernel_rfl))
theorem t3 : ∀ (k : Nat), k < 32 → (fun b c w => endR (runOps C4 (sM b c w k false) (r2ops.drop 23))) = fun b c w => some (.bool true, [], []) :=
  cases32 (by repeat (first | refine ⟨by kernel_rfl, ?_⟩ | kernel_rfl))

theorem eqCells_self : ∀ (l : List Int), eqCells (l.map (V.int .u8)) (l.map (V.int .u8)) = some true
  | [] => rfl
  | n :: r => by simp only [List.map_cons, eqCells, eqCell, if_true, beq_self_eq_true, eqCells_self r]
theorem bl32_ints (b : Nat → Int) : bl32 b = ((List.range 32).map b).map (V.int .u8) := by rw [List.map_map]; rfl

theorem r2_parts : r2c = .region r2ops := by kernel_rfl
theorem r2_63 : (r2ops.drop 22).take 1 = [⟨some 63, .eqAgg 32 true (.t 61) (.t 62), some (60, true)⟩] := by kernel_rfl
theorem step63 (b c : Nat → Int) (w : Int) (k : Nat) (hk : k < 32) (h : bl32 b = bl32 c) : runOps C4 (sL b c w k) ((r2ops.drop 22).take 1) = some (sM b c w k false) := by
  have h7 := congrFun (congrFun (congrFun (g7 k hk) b) c) w
  simp only [Prod.mk.injEq] at h7
  obtain ⟨h60, h61, h62⟩ := h7
  rw [r2_63]
  have he : eqCells (bl32 b) (bl32 c) = some true := by rw [← h, bl32_ints]; exact eqCells_self _
  have hl1 : (bl32 b).length = 32 := rfl
  have hl2 : (bl32 c).length = 32 := rfl
  simp only [runOps, step_eq, stepA, h60, if_true, act, AOpd.ev, h61, h62, hl1, hl2, and_self, he, Act.just, Act.run, AOper.put, Store.puts, Bool.not_true]
  rfl

theorem second4 (b c : Nat → Int) (w : Int) (k : Nat) (hk : k < 32) (has : lxy b c = true → lxy c b = false) (htot : lxy b c = false → lxy c b = false → bl32 b = bl32 c) :
    endR (runOps C4 (sD b c w k false) r2ops) = some (.bool true, [], []) := by
  have split : ∀ (n : Nat) (l : List AOper) (s t : St), runOps C4 s (l.take n) = some t → runOps C4 s l = runOps C4 t (l.drop n) := fun n l s t h => by
    have := runOps_append (l.take n) (l.drop n) s t h
    rwa [List.take_append_drop] at this
  have q1 := congrFun (congrFun (congrFun (g1 k hk) b) c) w
  rw [split 4 _ _ _ q1]
  cases hxy : lxy b c with
  | true =>
    have q2 := congrFun (congrFun (congrFun (g2 k hk) b) c) w
    rw [split 5 _ _ _ q2, List.drop_drop, has hxy]
    have q3 := congrFun (congrFun (congrFun (g3 k hk) b) c) w
    rw [split 5 _ _ _ q3, List.drop_drop, hxy]
    exact congrFun (congrFun (congrFun (t1 k hk) b) c) w
  | false =>
    have q2 := congrFun (congrFun (congrFun (g4 k hk) b) c) w
    rw [split 10 _ _ _ q2, List.drop_drop, hxy, Bool.not_false]
    have q3 := congrFun (congrFun (congrFun (g5 k hk) b) c) w
    rw [split 6 _ _ _ q3, List.drop_drop]
    cases hyx : lxy c b with
    | true => simp only [Bool.not_true]; exact congrFun (congrFun (congrFun (t2 k hk) b) c) w
    | false =>
      have q4 := congrFun (congrFun (congrFun (g6 k hk) b) c) w
      rw [Bool.not_false, split 2 _ _ _ q4, List.drop_drop, split 1 _ _ _ (step63 b c w k hk (htot hxy hyx)), List.drop_drop]
      exact congrFun (congrFun (congrFun (t3 k hk) b) c) w

theorem cond4a : (fun (t : Tm) (σ : Store) => evalCode C4 4 (rt 1 (fst1 (rt 4 a4.code))) ⟨(40, .bool false) :: t, σ⟩) = fun t σ => some (.normal, ⟨(40, .bool false) :: t, σ⟩) := by kernel_rfl
theorem seq4 : isSeq a4.code && isSeq (rt 1 a4.code) && isSeq (rt 2 a4.code) && isSeq (rt 3 a4.code) && isSeq (rt 4 a4.code) && isSeq (rt 5 a4.code) && isSeq (fst1 (rt 4 a4.code)) && isSeq (fst1 (rt 5 a4.code)) = true := by kernel_rfl

def c4 : Contract := AFn.run 4 C4 a4
theorem h4' : Holds Tryd.prog G 4 c4 := fn_holds s4 hM 4 Tryd.func4 p4 o4
theorem nat32 (b : Nat → Int) (w : Int) : ∃ k : Nat, k < 32 ∧ andI w 31 = (k : Int) := by
  obtain ⟨k, hk, he⟩ := andI_lt w 31 (by omega)
  exact ⟨k, by omega, he⟩

theorem run4 (b c : Nat → Int) (w : Int) (h1 : ∀ k, k < 32 → e1 b c k = false) (h2 : ∀ k, k < 32 → e2 b c k = false) (has : lxy b c = true → lxy c b = false) (htot : lxy b c = false → lxy c b = false → bl32 b = bl32 c) :
    c4 [.agg (bl32 b), .agg (bl32 c), .int .i64 w] [] = some (.bool true, [], []) := by
  have hs := seq4
  simp only [Bool.and_eq_true] at hs
  obtain ⟨⟨⟨⟨⟨⟨⟨i0, i1⟩, i2⟩, i3⟩, i4⟩, i5⟩, i6⟩, i7⟩ := hs
  obtain ⟨k, hk, he⟩ := nat32 b w
  have second := second4 b c w k hk has htot
  have first := first4 b c w k hk (h1 k hk) (h2 k hk)
  have q3 := congrFun (congrFun (congrFun (seg3 k hk) b) c) w
  have q0 := congrFun (congrFun (congrFun k4_0 b) c) w
  have q1 := congrFun (congrFun (congrFun k4_1 b) c) w
  have q2 := congrFun (congrFun (congrFun k4_2 b) c) w
  rw [he] at q1 q2
  unfold c4
  rw [run_endOf rfl]
  have e : evalCode C4 4 a4.code ⟨argTm 0 [.agg (bl32 b), .agg (bl32 c), .int .i64 w], argObjs 0 []⟩ = evalCode C4 4 (rt 5 a4.code) (sD b c w k false) := by
    refine (ev_fst _ i0 q0).trans ?_
    refine (ev_fst (rt 1 a4.code) i1 q1).trans ?_
    refine (ev_fst (rt 2 a4.code) i2 q2).trans ?_
    refine (ev_fst (rt 3 a4.code) i3 q3).trans ?_
    have f : evalCode C4 4 (fst1 (rt 4 a4.code)) (sB b c w k) = some (.normal, sD b c w k false) := (ev_fst (fst1 (rt 4 a4.code)) i6 first).trans (congrFun (congrFun cond4a _) _)
    exact ev_fst (rt 4 a4.code) i4 f
  rw [e]
  -- the second test
  unfold endR at second
  split at second
  · rename_i s hrun
    have f1 : evalCode C4 4 r2c (sD b c w k false) = some (.normal, s) := by rw [r2_parts]; exact ev_region hrun
    have f2 : evalCode C4 4 (rt 5 a4.code) (sD b c w k false) = evalCode C4 4 (.seq (rt 1 (fst1 (rt 5 a4.code))) (rt 6 a4.code)) s := by
      have g : ∀ c : ACode, isSeq c = true → isSeq (fst1 c) = true → c = .seq (.seq (fst1 (fst1 c)) (rt 1 (fst1 c))) (rt 1 c) := fun c hc hc1 => by
        cases c <;> simp [isSeq] at hc
        rename_i x y
        cases x <;> simp [isSeq, fst1] at hc1
        rfl
      rw [g (rt 5 a4.code) i5 i7]
      simp only [evalCode]
      have f1' : evalCode C4 4 (fst1 (fst1 (rt 5 a4.code))) (sD b c w k false) = some (.normal, s) := f1
      simp only [f1']
      rfl
    rw [f2]
    exact second
  · cases second
end Go.Proofs.YtiiohfojejfolaaDoor
