/-
  What is proved: what the document's Sum computes, for any bytes that are not too many: the same as shas.Sum.
  Conditions: none.
-/
import Derived.Test.YtiiohfojejfolaaDoorD4
set_option linter.unusedVariables false
set_option linter.unusedSimpArgs false
namespace Go.Proofs.YtiiohfojejfolaaDoor
open Go Go.Ev Go.Proofs

/-! ### numbers: laws -/
theorem wrap_u32 (n : Int) : IntKind.u32.wrap n = n % 4294967296 := by simp [IntKind.wrap, IntKind.bits, IntKind.signed]
theorem add32_comm (a b : Int) : add32 a b = add32 b a := by unfold add32; rw [Int.add_comm]
theorem add32_assoc (a b c : Int) : add32 (add32 a b) c = add32 a (add32 b c) := by unfold add32; simp only [wrap_u32]; omega
theorem or32_comm (a b : Int) : or32 a b = or32 b a := by unfold or32; rw [BitVec.or_comm]
theorem wrap_i64 (n : Int) (h1 : 0 ≤ n) (h2 : n < 9223372036854775808) : IntKind.i64.wrap n = n := by
  simp [IntKind.wrap, IntKind.bits, IntKind.signed]; omega

/-! ### turned, numbers -/
def rotl (a : Int) (n : Nat) : Int := or32 (shr32 a n) (shl32 a (32 - n))
theorem rotl_eq (a : Int) (n : Nat) : rotl a n = rotr a n := or32_comm _ _
def c56 : Contract := fun args objs =>
  match args, objs with
  | [.int .u32 x, .int .u64 n], [] => if n = 2 ∨ n = 6 ∨ n = 7 ∨ n = 11 ∨ n = 13 ∨ n = 17 ∨ n = 18 ∨ n = 19 ∨ n = 22 ∨ n = 25 then some (.int .u32 (rotr x n.toNat), [], []) else none
  | _, _ => none
theorem h56' : Holds Tryd.prog G 56 c56 := (fn_holds (sound_noC (P := Tryd.prog) (G := G)) hM 4 Tryd.func56 p56 o56).less fun args objs x h => by
  unfold c56 at h
  split at h
  · rename_i y n
    split at h
    · rename_i hn
      cases h
      rcases hn with rfl | rfl | rfl | rfl | rfl | rfl | rfl | rfl | rfl | rfl
      all_goals rw [← rotl_eq]
      · exact congrFun (show (fun x => AFn.run 4 noC a56 [.int .u32 x, .int .u64 2] []) = (fun x => some (.int .u32 (rotl x 2), [], [])) by kernel_rfl) y
      · exact congrFun (show (fun x => AFn.run 4 noC a56 [.int .u32 x, .int .u64 6] []) = (fun x => some (.int .u32 (rotl x 6), [], [])) by kernel_rfl) y
      · exact congrFun (show (fun x => AFn.run 4 noC a56 [.int .u32 x, .int .u64 7] []) = (fun x => some (.int .u32 (rotl x 7), [], [])) by kernel_rfl) y
      · exact congrFun (show (fun x => AFn.run 4 noC a56 [.int .u32 x, .int .u64 11] []) = (fun x => some (.int .u32 (rotl x 11), [], [])) by kernel_rfl) y
      · exact congrFun (show (fun x => AFn.run 4 noC a56 [.int .u32 x, .int .u64 13] []) = (fun x => some (.int .u32 (rotl x 13), [], [])) by kernel_rfl) y
      · exact congrFun (show (fun x => AFn.run 4 noC a56 [.int .u32 x, .int .u64 17] []) = (fun x => some (.int .u32 (rotl x 17), [], [])) by kernel_rfl) y
      · exact congrFun (show (fun x => AFn.run 4 noC a56 [.int .u32 x, .int .u64 18] []) = (fun x => some (.int .u32 (rotl x 18), [], [])) by kernel_rfl) y
      · exact congrFun (show (fun x => AFn.run 4 noC a56 [.int .u32 x, .int .u64 19] []) = (fun x => some (.int .u32 (rotl x 19), [], [])) by kernel_rfl) y
      · exact congrFun (show (fun x => AFn.run 4 noC a56 [.int .u32 x, .int .u64 22] []) = (fun x => some (.int .u32 (rotl x 22), [], [])) by kernel_rfl) y
      · exact congrFun (show (fun x => AFn.run 4 noC a56 [.int .u32 x, .int .u64 25] []) = (fun x => some (.int .u32 (rotl x 25), [], [])) by kernel_rfl) y
    · cases h
  · cases h
def c55 : Contract := fun args objs => if args.isEmpty && objs.isEmpty then some (.agg cubes, [], []) else none
theorem h55' : Holds Tryd.prog G 55 c55 := (fn_holds (sound_noC (P := Tryd.prog) (G := G)) hM 4 Tryd.func55 p55 o55).less fun args objs x h => by
  unfold c55 at h
  split at h
  · rename_i hc
    simp only [Bool.and_eq_true, List.isEmpty_iff] at hc
    obtain ⟨rfl, rfl⟩ := hc
    cases h
    kernel_rfl
  · cases h
def C55 : FuncId → Option Contract := addC (addC C51 56 c56) 55 c55
theorem s55 : Sound Tryd.prog G C55 := (s51.add Tryd.func56 (by kernel_rfl) h56').add Tryd.func55 (by kernel_rfl) h55'

/-! ### the walk over the document's Sum: the front -/
def rowS (s : Nat) (xs : List V) : V := .slc 1 xs (.tok (.loc s 0) 0)
def kr0 : List Nat := [2, 24, 26, 27, 28, 37, 51, 52, 53, 6, 7, 57, 9, 118, 120, 132, 134, 15, 153, 155, 158, 181, 183, 186, 22]
def sr0 (s : Nat) (x0 : V) (xs : List V) : St := ⟨[(0, x0), (2, pt 2), (3, rowS s xs)], [(.loc 2 0, .cells z32), (.loc s 0, .tok xs.length)]⟩
set_option maxHeartbeats 2000000 in
theorem rbody0 (s : Nat) (hs : s = 26 ∨ s = 28) (b xs : List V) (hl : xs.length ≤ 2 * lim) (h : xs.length % 64 ≠ 56) :
    ∃ s', evalCode C55 F15 b18_0 (sr0 s (.slc 1 b .none) xs) = some (.normal, s') ∧ clean [0, 2, 3] kr0 s' = sr0 s (.slc 1 b .none) (xs ++ [u8 0]) := by
  have hb : (Int.tmod (xs.length : Int) 64 != 56) = true := by
    have : Int.tmod (xs.length : Int) 64 = ((xs.length % 64 : Nat) : Int) := rfl
    rw [this]; simp; omega
  rcases hs with rfl | rfl
  all_goals
    refine ⟨_, (ev_seq ((ev_seq (ev_region (s1 := ⟨(32, .bool (Int.tmod (xs.length : Int) 64 != 56)) :: (31, .int .i64 (Int.tmod (xs.length : Int) 64)) :: (30, .int .i64 xs.length) :: (29, rowS _ xs) :: (sr0 _ (.slc 1 b .none) xs).tm, (sr0 _ (.slc 1 b .none) xs).st⟩) rfl)).trans ((ev_true (by exact congrArg V.bool hb)).trans rfl))).trans
      (ev_block_normal (ev_region ((ops_cons rfl).trans ((ops_cons rfl).trans ((ops_cons (step_append_tok (xs := xs) (ys := [u8 0]) (k := .loc _ 0) (st := 0) rfl rfl (by rw [Nat.zero_add]; rfl) ?_ ?_ rfl)).trans ((ops_cons rfl).trans ops_nil)))))), ?_⟩
    · unfold lim at hl; simp only [List.length_singleton]; omega
    · unfold lim at hl; simp only [List.length_singleton]; omega
    · simp only [sr0, List.length_append, List.length_singleton, Nat.zero_add]
      rfl
set_option maxHeartbeats 2000000 in
theorem rexit0 (s : Nat) (hs : s = 26 ∨ s = 28) (b xs : List V) (h : xs.length % 64 = 56) :
    evalCode C55 F15 b18_0 (sr0 s (.slc 1 b .none) xs) = some (.exit 0, ⟨(32, .bool false) :: (31, .int .i64 (Int.tmod (xs.length : Int) 64)) :: (30, .int .i64 xs.length) :: (29, rowS s xs) :: (sr0 s (.slc 1 b .none) xs).tm, (sr0 s (.slc 1 b .none) xs).st⟩) := by
  have hb : (Int.tmod (xs.length : Int) 64 != 56) = false := by
    have : Int.tmod (xs.length : Int) 64 = ((xs.length % 64 : Nat) : Int) := rfl
    rw [this, h]; rfl
  rw [← hb]
  rcases hs with rfl | rfl
  all_goals
    exact ev_seq_out ((ev_seq (ev_region (s1 := ⟨(32, .bool (Int.tmod (xs.length : Int) 64 != 56)) :: (31, .int .i64 (Int.tmod (xs.length : Int) 64)) :: (30, .int .i64 xs.length) :: (29, rowS _ xs) :: (sr0 _ (.slc 1 b .none) xs).tm, (sr0 _ (.slc 1 b .none) xs).st⟩) rfl)).trans ((ev_false (by exact congrArg V.bool hb)).trans rfl)) (by simp)

def kr1 : List Nat := [2, 24, 26, 27, 28, 30, 34, 35, 37, 53, 6, 7, 57, 9, 118, 120, 132, 134, 15, 153, 155, 158, 181, 183, 186, 22]
def sr1 (s n : Nat) (k : Int) (xs : List V) : St := ⟨[(2, pt 2), (3, rowS s xs), (4, .int .u64 (bits8 n)), (5, .int .i64 k)], [(.loc 2 0, .cells z32), (.loc s 0, .tok xs.length)]⟩
set_option maxHeartbeats 2000000 in
theorem rbody1 (s : Nat) (hs : s = 26 ∨ s = 28) (n i : Nat) (hi : i < 8) (xs : List V) (hl : xs.length ≤ 3 * lim) :
    ∃ s', evalCode C55 F15 b18_1 (sr1 s n (7 - i) xs) = some (.normal, s') ∧ clean [2, 3, 4, 5] kr1 s' = sr1 s n (7 - (i + 1 : Nat)) (xs ++ [lenB n (56 - 8 * i)]) := by
  have h1 : (xs.length + 1) * 1 ≤ 1099511627776 := by unfold lim at hl; omega
  have h2 : xs.length + 1 ≤ 1099511627776 := by unfold lim at hl; omega
  have hs' : 0 + xs.length + 1 = (xs ++ [lenB n (56 - 8 * i)]).length := by simp
  have h0 : i = 0 ∨ i = 1 ∨ i = 2 ∨ i = 3 ∨ i = 4 ∨ i = 5 ∨ i = 6 ∨ i = 7 := by omega
  rcases hs with rfl | rfl
  all_goals rcases h0 with rfl | rfl | rfl | rfl | rfl | rfl | rfl | rfl
  all_goals
    refine ⟨_, (ev_seq rfl).trans ((ev_seq (ev_block_normal (ev_region ((ops_cons rfl).trans ((ops_cons rfl).trans ((ops_cons rfl).trans ((ops_cons rfl).trans ((ops_cons rfl).trans ((ops_cons rfl).trans ((ops_cons rfl).trans ((ops_cons rfl).trans
      ((ops_cons (step_append_tok (xs := xs) (ys := [_]) (k := .loc _ 0) (st := 0) rfl rfl (by rw [Nat.zero_add]; rfl) h1 h2 rfl)).trans ((ops_cons rfl).trans ops_nil))))))))))))).trans rfl), ?_⟩
    simp only [sr1, ← hs']
    rfl
theorem rexit1 (s : Nat) (hs : s = 26 ∨ s = 28) (n : Nat) (xs : List V) : evalCode C55 F15 b18_1 (sr1 s n (-1) xs) = some (.exit 2, ⟨(41, .bool false) :: (40, .int .i64 (-1)) :: (sr1 s n (-1) xs).tm, (sr1 s n (-1) xs).st⟩) := by
  rcases hs with rfl | rfl <;> rfl
end Go.Proofs.YtiiohfojejfolaaDoor
