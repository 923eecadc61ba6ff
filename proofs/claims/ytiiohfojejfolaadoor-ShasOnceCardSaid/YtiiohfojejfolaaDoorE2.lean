/-
  What is proved: what ShasForms and what ShasOrder answer, for any arguments: true.
  Conditions: none.
-/
import Derived.Test.YtiiohfojejfolaaDoorD10
import Derived.Test.YtiiohfojejfolaaDoorE1
set_option linter.unusedVariables false
set_option linter.unusedSimpArgs false
namespace Go.Proofs.YtiiohfojejfolaaDoor
open Go Go.Ev Go.Proofs

/-! ### numbers that are held to some bits -/
def andI (w : Int) (m : Nat) : Int := IntKind.i64.wrap (BitVec.ofInt 64 w &&& BitVec.ofInt 64 (m : Int)).toNat
theorem andI_lt (w : Int) (m : Nat) (hm : m < 4294967296) : ∃ k : Nat, k ≤ m ∧ andI w m = (k : Int) := by
  have h1 : (BitVec.ofInt 64 w &&& BitVec.ofInt 64 (m : Int)).toNat ≤ m := by
    rw [BitVec.toNat_and]
    have : (BitVec.ofInt 64 (m : Int)).toNat = m := by
      rw [BitVec.toNat_ofInt]
      omega
    rw [this]
    exact Nat.and_le_right
  exact ⟨_, h1, by unfold andI; rw [wrap_i64 _ (by omega) (by omega)]⟩

/-! ### ShasForms -/
def C7 : FuncId → Option Contract := addC C15 17 c17
theorem s7 : Sound Tryd.prog G C7 := s15.add Tryd.func17 (by kernel_rfl) h17'
def sF0 (w : Int) : St := ⟨[(2, .bool false), (0, .int .i64 w)], []⟩
def sF (w : Int) : St := match evalCode C7 4 (fst1 (rt 1 a7.code)) (sF0 w) with
  | some (_, s) => s
  | none => ⟨[], []⟩
def st7 (w : Int) (x r : Int) : St := ⟨(20, .int .i64 r) :: (19, .int .i64 8) :: (18, (sF w).tm.at 3) :: (17, .int .i64 x) :: (16, .int .i64 w) :: (15, (sF w).tm.at 3) :: (sF w).tm, (sF w).st⟩
theorem k7_0 : (fun w => evalCode C7 4 (fst1 a7.code) ⟨argTm 0 [.int .i64 w], argObjs 0 []⟩) = fun w => some (.normal, sF0 w) := by kernel_rfl
theorem k7_1 : (fun w => evalCode C7 4 (fst1 (rt 1 a7.code)) (sF0 w)) = fun w => some (.normal, sF w) := by kernel_rfl
theorem k7_2 : (fun w => runOps C7 (sF w) (preOps 6 (rt 2 a7.code))) = fun w => some (st7 w (andI w 255) (Int.tmod (andI w 255) 8)) := by kernel_rfl
theorem front7 (w : Int) : evalCode C7 4 a7.code ⟨argTm 0 [.int .i64 w], argObjs 0 []⟩ = evalCode C7 4 (dropOps 6 (rt 2 a7.code)) (st7 w (andI w 255) (Int.tmod (andI w 255) 8)) := by
  refine (ev_fst _ (by kernel_rfl) (congrFun k7_0 w)).trans ?_
  refine (ev_fst (rt 1 a7.code) (by kernel_rfl) (congrFun k7_1 w)).trans ?_
  exact ev_pre 6 (rt 2 a7.code) (by kernel_rfl) (congrFun k7_2 w)
theorem rest7_0 : (fun w x => endOf a7 (evalCode C7 4 (dropOps 6 (rt 2 a7.code)) (st7 w x ((0 : Nat) : Int)))) = fun w x => some (.bool true, [], []) := by kernel_rfl
theorem rest7_1 : (fun w x => endOf a7 (evalCode C7 4 (dropOps 6 (rt 2 a7.code)) (st7 w x ((1 : Nat) : Int)))) = fun w x => some (.bool true, [], []) := by kernel_rfl
theorem rest7_2 : (fun w x => endOf a7 (evalCode C7 4 (dropOps 6 (rt 2 a7.code)) (st7 w x ((2 : Nat) : Int)))) = fun w x => some (.bool true, [], []) := by kernel_rfl
theorem rest7_3 : (fun w x => endOf a7 (evalCode C7 4 (dropOps 6 (rt 2 a7.code)) (st7 w x ((3 : Nat) : Int)))) = fun w x => some (.bool true, [], []) := by kernel_rfl
theorem rest7_4 : (fun w x => endOf a7 (evalCode C7 4 (dropOps 6 (rt 2 a7.code)) (st7 w x ((4 : Nat) : Int)))) = fun w x => some (.bool true, [], []) := by kernel_rfl
theorem rest7_5 : (fun w x => endOf a7 (evalCode C7 4 (dropOps 6 (rt 2 a7.code)) (st7 w x ((5 : Nat) : Int)))) = fun w x => some (.bool true, [], []) := by kernel_rfl
theorem rest7_6 : (fun w x => endOf a7 (evalCode C7 4 (dropOps 6 (rt 2 a7.code)) (st7 w x ((6 : Nat) : Int)))) = fun w x => some (.bool true, [], []) := by kernel_rfl
theorem rest7_7 : (fun w x => endOf a7 (evalCode C7 4 (dropOps 6 (rt 2 a7.code)) (st7 w x ((7 : Nat) : Int)))) = fun w x => some (.bool true, [], []) := by kernel_rfl
theorem rest7 (w x : Int) (r : Nat) (hr : r < 8) : endOf a7 (evalCode C7 4 (dropOps 6 (rt 2 a7.code)) (st7 w x r)) = some (.bool true, [], []) := by
  have h0 : r = 0 ∨ r = 1 ∨ r = 2 ∨ r = 3 ∨ r = 4 ∨ r = 5 ∨ r = 6 ∨ r = 7 := by omega
  rcases h0 with rfl | rfl | rfl | rfl | rfl | rfl | rfl | rfl
  · exact congrFun (congrFun rest7_0 w) x
  · exact congrFun (congrFun rest7_1 w) x
  · exact congrFun (congrFun rest7_2 w) x
  · exact congrFun (congrFun rest7_3 w) x
  · exact congrFun (congrFun rest7_4 w) x
  · exact congrFun (congrFun rest7_5 w) x
  · exact congrFun (congrFun rest7_6 w) x
  · exact congrFun (congrFun rest7_7 w) x
def c7 : Contract := AFn.run 4 C7 a7
theorem h7' : Holds Tryd.prog G 7 c7 := fn_holds s7 hM 4 Tryd.func7 p7 o7
theorem c7_true (w : Int) (_hw : (Lit.int .i64 w).wf = true) : c7 [.int .i64 w] [] = some (.bool true, [], []) := by
  unfold c7
  rw [run_endOf rfl, front7]
  obtain ⟨k, hk, he⟩ := andI_lt w 255 (by omega)
  rw [he, show Int.tmod (k : Int) 8 = ((k % 8 : Nat) : Int) from rfl]
  exact rest7 w k (k % 8) (by omega)
end Go.Proofs.YtiiohfojejfolaaDoor
