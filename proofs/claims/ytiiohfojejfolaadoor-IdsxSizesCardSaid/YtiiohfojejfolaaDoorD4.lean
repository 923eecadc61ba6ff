/-
  What is proved: what shas.Sum computes, for any bytes that are not too many: a function of the bytes, by blocks.
  Conditions: none.
-/
import Derived.Test.YtiiohfojejfolaaDoorD3
set_option linter.unusedVariables false
set_option linter.unusedSimpArgs false
namespace Go.Proofs.YtiiohfojejfolaaDoor
open Go Go.Ev Go.Proofs

/-! ### the sum of bytes, by blocks -/
def zeros (n : Nat) : Nat := (119 - n % 64) % 64
def bits8 (n : Nat) : Int := IntKind.u64.wrap (IntKind.u64.wrap n * 8)
def lenB (n k : Nat) : V := u8 (IntKind.u8.wrap ((bits8 n).fdiv (2 ^ k)))
def tailB (n : Nat) : List V := [lenB n 56, lenB n 48, lenB n 40, lenB n 32, lenB n 24, lenB n 16, lenB n 8, lenB n 0]
def padded (xs : List V) : List V := (xs ++ [u8 128]) ++ List.replicate (zeros xs.length) (u8 0) ++ tailB xs.length
def squaresW : W8 := ⟨1779033703, 3144134277, 1013904242, 2773480762, 1359893119, 2600822924, 528734635, 1541459225⟩
def foldH (p : List V) : Nat → W8
  | 0 => squaresW
  | i + 1 => mixW (foldH p i) (schedAt ((p.drop (64 * i)).take 64))
def outB (h : Int) (k : Nat) : V := u8 (IntKind.u8.wrap (h.fdiv (2 ^ k)))
def out4 (h : Int) : List V := [outB h 24, outB h 16, outB h 8, outB h 0]
def outV (h : W8) : List V := out4 h.a ++ out4 h.b ++ out4 h.c ++ out4 h.d ++ out4 h.e ++ out4 h.f ++ out4 h.g ++ out4 h.h
def nBlocks (p : List V) : Nat := p.length / 64
def shaV (xs : List V) : List V := outV (foldH (padded xs) (nBlocks (padded xs)))

theorem zeros_mod (n : Nat) : (n + 1 + zeros n) % 64 = 56 := by unfold zeros; omega
theorem zeros_ne (n i : Nat) (h : i < zeros n) : (n + 1 + i) % 64 ≠ 56 := by unfold zeros at h; omega
theorem padded_len (xs : List V) : (padded xs).length = xs.length + 1 + zeros xs.length + 8 := by simp [padded, tailB]; omega
theorem padded_mod (xs : List V) : (padded xs).length % 64 = 0 := by rw [padded_len]; have := zeros_mod xs.length; omega
theorem kinds_append {k : IntKind} {a b : List V} (h1 : kinds k a = true) (h2 : kinds k b = true) : kinds k (a ++ b) = true := by simp [kinds] at *; exact ⟨h1, h2⟩
theorem kinds_padded {xs : List V} (h : kinds .u8 xs = true) : kinds .u8 (padded xs) = true := by
  refine kinds_append (kinds_append (kinds_append h rfl) ?_) rfl
  simp only [kinds, List.all_replicate]
  cases zeros xs.length <;> simp [u8, isU]
theorem kinds_drop {k : IntKind} {a : List V} (n : Nat) (h : kinds k a = true) : kinds k (a.drop n) = true := by simp only [kinds, List.all_eq_true] at *; exact fun x hx => h x (List.mem_of_mem_drop hx)
theorem kinds_take {k : IntKind} {a : List V} (n : Nat) (h : kinds k a = true) : kinds k (a.take n) = true := by simp only [kinds, List.all_eq_true] at *; exact fun x hx => h x (List.mem_of_mem_take hx)

/-! ### the walk over Sum -/
def F15 : Nat := 134217728
def z8 : List V := [u32 0, u32 0, u32 0, u32 0, u32 0, u32 0, u32 0, u32 0]
def z32 : List V := [u8 0, u8 0, u8 0, u8 0, u8 0, u8 0, u8 0, u8 0, u8 0, u8 0, u8 0, u8 0, u8 0, u8 0, u8 0, u8 0, u8 0, u8 0, u8 0, u8 0, u8 0, u8 0, u8 0, u8 0, u8 0, u8 0, u8 0, u8 0, u8 0, u8 0, u8 0, u8 0]
def pt (n : Nat) : V := .ptr (.loc n 0) 0
def row17 (xs : List V) (st : Nat) : V := .slc 1 xs (.tok (.loc 17 0) st)

def st0 (n : Int) (xs : List V) : St := ⟨[(2, pt 2), (3, .int .u64 n), (4, row17 xs 0)], [(.loc 2 0, .cells z32), (.loc 17 0, .tok xs.length)]⟩
theorem body0 (n : Int) (xs : List V) (hl : xs.length ≤ 2 * lim) (h : xs.length % 64 ≠ 56) :
    ∃ s', evalCode C51 F15 b15_0 (st0 n xs) = some (.normal, s') ∧ clean [2, 3, 4] [2, 10, 14, 15, 16, 17, 35, 36, 6, 39, 46, 7] s' = st0 n (xs ++ [u8 0]) := by
  have hb : (Int.tmod (xs.length : Int) 64 != 56) = true := by
    have : Int.tmod (xs.length : Int) 64 = ((xs.length % 64 : Nat) : Int) := rfl
    rw [this]; simp; omega
  refine ⟨_, (ev_seq ((ev_seq (ev_region (s1 := ⟨(21, .bool (Int.tmod (xs.length : Int) 64 != 56)) :: (20, .int .i64 (Int.tmod (xs.length : Int) 64)) :: (19, .int .i64 xs.length) :: (18, row17 xs 0) :: (st0 n xs).tm, (st0 n xs).st⟩) rfl)).trans ((ev_true (by exact congrArg V.bool hb)).trans rfl))).trans
    (ev_block_normal (ev_region ((ops_cons rfl).trans ((ops_cons rfl).trans ((ops_cons (step_append_tok (xs := xs) (ys := [u8 0]) (k := .loc 17 0) (st := 0) rfl rfl (by rw [Nat.zero_add]; rfl) ?_ ?_ rfl)).trans ((ops_cons rfl).trans ops_nil)))))), ?_⟩
  · unfold lim at hl; simp only [List.length_singleton]; omega
  · unfold lim at hl; simp only [List.length_singleton]; omega
  · simp only [st0, List.length_append, List.length_singleton, Nat.zero_add]
    rfl
theorem exit0 (n : Int) (xs : List V) (h : xs.length % 64 = 56) :
    evalCode C51 F15 b15_0 (st0 n xs) = some (.exit 0, ⟨(21, .bool false) :: (20, .int .i64 (Int.tmod (xs.length : Int) 64)) :: (19, .int .i64 xs.length) :: (18, row17 xs 0) :: (st0 n xs).tm, (st0 n xs).st⟩) := by
  have hb : (Int.tmod (xs.length : Int) 64 != 56) = false := by
    have : Int.tmod (xs.length : Int) 64 = ((xs.length % 64 : Nat) : Int) := rfl
    rw [this, h]; rfl
  rw [← hb]
  exact ev_seq_out ((ev_seq (ev_region (s1 := ⟨(21, .bool (Int.tmod (xs.length : Int) 64 != 56)) :: (20, .int .i64 (Int.tmod (xs.length : Int) 64)) :: (19, .int .i64 xs.length) :: (18, row17 xs 0) :: (st0 n xs).tm, (st0 n xs).st⟩) rfl)).trans ((ev_false (by exact congrArg V.bool hb)).trans rfl)) (by simp)

def st1 (n : Nat) (k : Int) (xs : List V) : St := ⟨[(2, pt 2), (3, .int .u64 (bits8 n)), (4, row17 xs 0), (5, .int .i64 k)], [(.loc 2 0, .cells z32), (.loc 17 0, .tok xs.length)]⟩
def ks1 : List Nat := [2, 10, 14, 15, 16, 17, 19, 23, 24, 6, 39, 46, 7]
theorem body1 (n i : Nat) (hi : i < 8) (xs : List V) (hl : xs.length ≤ 3 * lim) :
    ∃ s', evalCode C51 F15 b15_1 (st1 n (7 - i) xs) = some (.normal, s') ∧ clean [2, 3, 4, 5] ks1 s' = st1 n (7 - (i + 1 : Nat)) (xs ++ [lenB n (56 - 8 * i)]) := by
  have h1 : (xs.length + 1) * 1 ≤ 1099511627776 := by unfold lim at hl; omega
  have h2 : xs.length + 1 ≤ 1099511627776 := by unfold lim at hl; omega
  have hs : 0 + xs.length + 1 = (xs ++ [lenB n (56 - 8 * i)]).length := by simp
  have h0 : i = 0 ∨ i = 1 ∨ i = 2 ∨ i = 3 ∨ i = 4 ∨ i = 5 ∨ i = 6 ∨ i = 7 := by omega
  rcases h0 with rfl | rfl | rfl | rfl | rfl | rfl | rfl | rfl
  all_goals
    refine ⟨_, (ev_seq rfl).trans ((ev_seq (ev_block_normal (ev_region ((ops_cons rfl).trans ((ops_cons rfl).trans ((ops_cons rfl).trans ((ops_cons rfl).trans ((ops_cons rfl).trans ((ops_cons rfl).trans ((ops_cons rfl).trans
      ((ops_cons (step_append_tok (xs := xs) (ys := [_]) (k := .loc 17 0) (st := 0) rfl rfl (by rw [Nat.zero_add]; rfl) h1 h2 rfl)).trans ((ops_cons rfl).trans ops_nil)))))))))))).trans rfl), ?_⟩
    simp only [st1, ← hs]
    rfl
theorem exit1 (n : Nat) (xs : List V) : evalCode C51 F15 b15_1 (st1 n (-1) xs) = some (.exit 2, ⟨(26, .bool false) :: (25, .int .i64 (-1)) :: (st1 n (-1) xs).tm, (st1 n (-1) xs).st⟩) := rfl

def st2 (h : W8) (n st : Nat) (xs : List V) : St := ⟨[(2, pt 2), (4, row17 xs st), (6, pt 6)], [(.loc 2 0, .cells z32), (.loc 17 0, .tok n), (.loc 6 0, .cells h.l)]⟩
def ks2 : List Nat := [2, 10, 14, 15, 16, 17, 19, 23, 24, 35, 36, 6, 7]
theorem toW_W (h : W8) : toW h.l = h := rfl
theorem body2 (h : W8) (n st : Nat) (xs : List V) (hk : kinds .u8 xs = true) (hl : 64 ≤ xs.length) :
    ∃ s', evalCode C51 F15 b15_2 (st2 h n st xs) = some (.normal, s') ∧ clean [2, 4, 6] ks2 s' = st2 (mixW h (schedAt (xs.take 64))) n (st + 64) (xs.drop 64) := by
  have hb : decide ((xs.length : Int) > 0) = true := by simp; omega
  have hc : c53 [.agg h.l, .slc 1 (xs.take 64) .none] [] = some (.agg (mixW h (schedAt (xs.take 64))).l, [], []) := by
    have h2 : (xs.take 64).length = 64 := by simp; omega
    have h1 := kinds_take 64 hk
    simp only [c53, h1, h2, show kinds .u32 h.l = true from rfl, show h.l.length = 8 from rfl, and_self, if_true, toW_W]
  refine ⟨_, (ev_seq ((ev_seq (ev_region (s1 := ⟨(40, .bool (decide ((xs.length : Int) > 0))) :: (39, .int .i64 xs.length) :: (38, row17 xs st) :: (st2 h n st xs).tm, (st2 h n st xs).st⟩) rfl)).trans ((ev_true (by exact congrArg V.bool hb)).trans rfl))).trans
    ((ev_seq (ev_block_normal (ev_drawn ((log_cons rfl).trans ((log_cons rfl).trans ((log_cons (step_sliceTo (xs := xs) (n := 64) rfl hl)).trans
      ((log_cons (step_call (r := .agg (mixW h (schedAt (xs.take 64))).l) (c := c53) (vs' := [.agg h.l, .slc 1 (xs.take 64) .none]) rfl rfl (fun _ _ => rfl) rfl rfl rfl hc rfl)).trans ((log_cons rfl).trans rfl))))) (by kernel_rfl)))).trans
      (ev_region ((ops_cons rfl).trans ((ops_cons (step_sliceFrom (xs := xs) (k := .loc 17 0) (st := st) (n := 64) rfl hl)).trans ((ops_cons rfl).trans ops_nil))))), ?_⟩
  rfl
theorem exit2 (h : W8) (n st : Nat) : evalCode C51 F15 b15_2 (st2 h n st []) = some (.exit 4, ⟨(40, .bool false) :: (39, .int .i64 0) :: (38, row17 [] st) :: (st2 h n st []).tm, (st2 h n st []).st⟩) := rfl

def rt : Nat → ACode → ACode
  | 0, c => c
  | n + 1, c => match c with
    | .seq _ b => rt n b
    | c => c
def endOf (f : AFn) (r : Option (Ex × St)) : Option (V × List Ev.Obj × List Ev.Obj) :=
  match r with
  | some (.normal, s) => f.finish 0 s
  | some (.ret, s) => f.finish 0 s
  | _ => none
theorem run_endOf {fuel : Nat} {C : FuncId → Option Contract} {f : AFn} {args : List V} (h : args.length = f.nparams) : AFn.run fuel C f args [] = endOf f (evalCode C fuel f.code ⟨argTm 0 args, argObjs 0 []⟩) := by
  unfold AFn.run endOf
  rw [if_pos h]
  rfl
theorem tail15 : (fun (h : W8) (n st : Nat) => endOf a15 (evalCode C51 F15 (rt 7 a15.code) ⟨(40, .bool false) :: (39, .int .i64 0) :: (38, row17 [] st) :: (st2 h n st []).tm, (st2 h n st []).st⟩)) = fun h _ _ => some (.agg (outV h), [], []) := by kernel_rfl

theorem run15 (xs : List V) (hx : kinds .u8 xs = true) (hl : xs.length ≤ lim) : AFn.run F15 C51 a15 [.slc 1 xs .none] [] = some (.agg (shaV xs), [], []) := by
  have hz : zeros xs.length ≤ 64 := by unfold zeros; omega
  have hpl := padded_len xs
  rw [run_endOf rfl]
  have e : evalCode C51 F15 a15.code ⟨argTm 0 [.slc 1 xs .none], argObjs 0 []⟩ =
      evalCode C51 F15 (rt 7 a15.code) ⟨(40, .bool false) :: (39, .int .i64 0) :: (38, row17 [] (64 * nBlocks (padded xs))) :: (st2 (foldH (padded xs) (nBlocks (padded xs))) (padded xs).length (64 * nBlocks (padded xs)) []).tm, (st2 (foldH (padded xs) (nBlocks (padded xs))) (padded xs).length (64 * nBlocks (padded xs)) []).st⟩ := by
    -- the front
    refine (ev_seq (ev_region rfl)).trans ?_
    refine (ev_seq (ev_region rfl)).trans ?_
    refine (ev_seq (ev_region ((ops_cons rfl).trans ((ops_cons (step_call (c := c52) (r := .slc 1 xs .none) (vs' := [.slc 1 xs .none]) rfl rfl (fun _ _ => rfl) rfl rfl rfl (by simp only [c52, if_pos hl]) rfl)).trans
      ((ops_cons (step_call (c := c51) (r := .slc 1 xs .tight) (vs' := [.slc 1 xs .none]) rfl rfl (fun _ _ => rfl) rfl rfl rfl rfl rfl)).trans ((ops_cons rfl).trans
        ((ops_cons (step_append_tight (xs := xs) (ys := [u8 128]) rfl rfl rfl (by unfold lim at hl; simp only [List.length_singleton]; omega) (by unfold lim at hl; simp only [List.length_singleton]; omega) rfl)).trans ((ops_cons rfl).trans ops_nil)))))))).trans ?_
    -- zeros
    refine (ev_seq (ev_block (ev_loop (fun i => st0 (bits8 xs.length) ((xs ++ [u8 128]) ++ List.replicate i (u8 0))) (zeros xs.length) ?_ ?_ (exit0 _ _ ?_) (by simp) ?_))).trans ?_
    · simp only [List.replicate_zero, List.append_nil, st0, List.length_append, List.length_singleton]; rfl
    · intro i hi
      obtain ⟨s', h1, h2⟩ := body0 (bits8 xs.length) ((xs ++ [u8 128]) ++ List.replicate i (u8 0)) (by simp only [List.length_append, List.length_singleton, List.length_replicate]; unfold lim at *; omega) (by
        simp only [List.length_append, List.length_singleton, List.length_replicate]
        have := zeros_ne xs.length i hi; omega)
      refine ⟨s', h1, h2.trans ?_⟩
      rw [List.replicate_succ', List.append_assoc (xs ++ [u8 128])]
    · simp only [List.length_append, List.length_singleton, List.length_replicate]
      have := zeros_mod xs.length; omega
    · unfold F15; omega
    -- the length
    refine (ev_seq ((ev_seq (ev_region rfl)).trans (ev_block (ev_loop (fun i => st1 xs.length (7 - i) (((xs ++ [u8 128]) ++ List.replicate (zeros xs.length) (u8 0)) ++ (tailB xs.length).take i)) 8 ?_ ?_ (exit1 _ _) (by simp) (by unfold F15; omega))))).trans ?_
    · simp only [List.take_zero, List.append_nil]; rfl
    · intro i hi
      obtain ⟨s', h1, h2⟩ := body1 xs.length i hi (((xs ++ [u8 128]) ++ List.replicate (zeros xs.length) (u8 0)) ++ (tailB xs.length).take i) (by
        simp only [List.length_append, List.length_singleton, List.length_replicate, List.length_take]; unfold lim at *; omega)
      refine ⟨s', h1, h2.trans ?_⟩
      have : (tailB xs.length).take (i + 1) = (tailB xs.length).take i ++ [lenB xs.length (56 - 8 * i)] := by
        have h0 : i = 0 ∨ i = 1 ∨ i = 2 ∨ i = 3 ∨ i = 4 ∨ i = 5 ∨ i = 6 ∨ i = 7 := by omega
        rcases h0 with rfl | rfl | rfl | rfl | rfl | rfl | rfl | rfl <;> rfl
      rw [this, ← List.append_assoc]
    -- the blocks
    refine (ev_seq (ev_region rfl)).trans ?_
    have hn : (padded xs).length = 64 * nBlocks (padded xs) := by
      have := padded_mod xs; unfold nBlocks; omega
    refine (ev_seq (ev_block (ev_loop (ex := .exit 4) (s1 := ⟨(40, .bool false) :: (39, .int .i64 0) :: (38, row17 [] (64 * nBlocks (padded xs))) :: (st2 (foldH (padded xs) (nBlocks (padded xs))) (padded xs).length (64 * nBlocks (padded xs)) []).tm, (st2 (foldH (padded xs) (nBlocks (padded xs))) (padded xs).length (64 * nBlocks (padded xs)) []).st⟩) (fun i => st2 (foldH (padded xs) i) (padded xs).length (64 * i) ((padded xs).drop (64 * i))) (nBlocks (padded xs)) ?_ ?_ ?_ (by simp) ?_))).trans ?_
    · simp only [Nat.mul_zero, List.drop_zero]; rfl
    · intro i hi
      obtain ⟨s', h1, h2⟩ := body2 (foldH (padded xs) i) (padded xs).length (64 * i) ((padded xs).drop (64 * i)) (kinds_drop _ (kinds_padded hx)) (by rw [List.length_drop]; omega)
      refine ⟨s', h1, h2.trans ?_⟩
      rw [List.drop_drop]
      rfl
    · have : (padded xs).drop (64 * nBlocks (padded xs)) = [] := by rw [← hn]; exact List.drop_length
      show evalCode C51 F15 b15_2 (st2 _ _ _ ((padded xs).drop (64 * nBlocks (padded xs)))) = _
      rw [this]
      exact exit2 _ _ _
    · unfold F15; unfold nBlocks; rw [hpl]; unfold lim at hl; omega
    rfl
  rw [e]
  exact congrFun (congrFun (congrFun tail15 _) _) _

def c15 : Contract := fun args objs =>
  match args, objs with
  | [.slc 1 xs .none], [] => if kinds .u8 xs = true ∧ xs.length ≤ lim then some (.agg (shaV xs), [], []) else none
  | _, _ => none
theorem h15' : Holds Tryd.prog G 15 c15 := (fn_holds s51 hM F15 Tryd.func15 p15 o15).less fun args objs x h => by
  unfold c15 at h
  split at h
  · rename_i xs
    split at h
    · rename_i hx
      cases h
      exact run15 xs hx.1 hx.2
    · cases h
  · cases h
end Go.Proofs.YtiiohfojejfolaaDoor
