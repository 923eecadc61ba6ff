/-
  What is proved: the document's Sum answers what shas.Sum answers, for any bytes that are not too many.
  Conditions: none.
-/
import Derived.Test.YtiiohfojejfolaaDoorD7
set_option linter.unusedVariables false
set_option linter.unusedSimpArgs false
namespace Go.Proofs.YtiiohfojejfolaaDoor
open Go Go.Ev Go.Proofs

def z64 : List V := List.replicate 64 (u32 0)
def stT (s n : Nat) (p : List V) (h : W8) (a : Int) : St := ⟨(58, .bool false) :: (57, .int .i64 a) :: (56, rowS s p) :: (55, .int .i64 a) :: (sr6 s n p h a).tm, (sr6 s n p h a).st⟩
theorem tail26 : (fun (n : Nat) (p : List V) (h : W8) (a : Int) => endOf a18 (evalCode C55 F15 (rt 8 a18.code) (stT 26 n p h a))) = fun _ _ h _ => some (.agg (outV h), [], []) := by kernel_rfl
theorem tail28 : (fun (n : Nat) (p : List V) (h : W8) (a : Int) => endOf a18 (evalCode C55 F15 (rt 8 a18.code) (stT 28 n p h a))) = fun _ _ h _ => some (.agg (outV h), [], []) := by kernel_rfl
theorem tail18 (s : Nat) (hs : s = 26 ∨ s = 28) (n : Nat) (p : List V) (h : W8) (a : Int) : endOf a18 (evalCode C55 F15 (rt 8 a18.code) (stT s n p h a)) = some (.agg (outV h), [], []) := by
  rcases hs with rfl | rfl
  · exact congrFun (congrFun (congrFun (congrFun tail26 n) p) h) a
  · exact congrFun (congrFun (congrFun (congrFun tail28 n) p) h) a

/-- What lies between the length and the blocks: the numbers, and the first words. -/
def midS (s n : Nat) (k : Nat) (p : List V) : St := ⟨(41, .bool false) :: (40, .int .i64 (-1)) :: (sr1 s k (-1) p).tm, [(.loc 2 0, .cells z32), (.loc s 0, .tok n)]⟩
def midE (r : Option (Ex × St)) : Option St := match r with
  | some (.normal, s) => some (clean [2, 3, 6, 7, 8] kr6 s)
  | _ => none
def midC : ACode := .seq (fst1 (rt 5 a18.code)) (.seq (fst1 (rt 6 a18.code)) (fst1 (fst1 (rt 7 a18.code))))
theorem mid26 : (fun (n k : Nat) (p : List V) => midE (evalCode C55 F15 midC (midS 26 n k p))) = fun n k p => some (sr6 26 n p squaresW 0) := by kernel_rfl
theorem mid28 : (fun (n k : Nat) (p : List V) => midE (evalCode C55 F15 midC (midS 28 n k p))) = fun n k p => some (sr6 28 n p squaresW 0) := by kernel_rfl
theorem mid18 (s : Nat) (hs : s = 26 ∨ s = 28) (n k : Nat) (p : List V) : midE (evalCode C55 F15 midC (midS s n k p)) = some (sr6 s n p squaresW 0) := by
  rcases hs with rfl | rfl
  · exact congrFun (congrFun (congrFun mid26 n) k) p
  · exact congrFun (congrFun (congrFun mid28 n) k) p

/-- Behind the front: from the row with its first bit on. -/
theorem rest18 (s : Nat) (hs : s = 26 ∨ s = 28) (b : List V) (hx : kinds .u8 b = true) (hl : b.length ≤ lim) (s0 : St) (h0 : clean [0, 2, 3] kr0 s0 = sr0 s (.slc 1 b .none) (b ++ [u8 128])) :
    endOf a18 (evalCode C55 F15 (rt 2 a18.code) s0) = some (.agg (shaV b), [], []) := by
  have hz : zeros b.length ≤ 64 := by unfold zeros; omega
  have hpl := padded_len b
  have hn : (padded b).length = 64 * nBlocks (padded b) := by
    have := padded_mod b; unfold nBlocks; omega
  -- zeros
  have e1 : evalCode C55 F15 (fst1 (rt 2 a18.code)) s0 = some (.normal, ⟨(32, .bool false) :: (31, .int .i64 (Int.tmod (((b ++ [u8 128]) ++ List.replicate (zeros b.length) (u8 0)).length : Int) 64)) :: (30, .int .i64 ((b ++ [u8 128]) ++ List.replicate (zeros b.length) (u8 0)).length) :: (29, rowS s ((b ++ [u8 128]) ++ List.replicate (zeros b.length) (u8 0))) :: (sr0 s (.slc 1 b .none) ((b ++ [u8 128]) ++ List.replicate (zeros b.length) (u8 0))).tm, (sr0 s (.slc 1 b .none) ((b ++ [u8 128]) ++ List.replicate (zeros b.length) (u8 0))).st⟩) := by
    refine ev_block (ev_loop (fun i => sr0 s (.slc 1 b .none) ((b ++ [u8 128]) ++ List.replicate i (u8 0))) (zeros b.length) ?_ ?_ (rexit0 s hs b _ ?_) (by simp) ?_)
    · simp only [List.replicate_zero, List.append_nil]; exact h0
    · intro i hi
      obtain ⟨s', h1, h2⟩ := rbody0 s hs b ((b ++ [u8 128]) ++ List.replicate i (u8 0)) (by simp only [List.length_append, List.length_singleton, List.length_replicate]; unfold lim at *; omega) (by
        simp only [List.length_append, List.length_singleton, List.length_replicate]
        have := zeros_ne b.length i hi; omega)
      refine ⟨s', h1, h2.trans ?_⟩
      rw [List.replicate_succ', List.append_assoc (b ++ [u8 128])]
    · simp only [List.length_append, List.length_singleton, List.length_replicate]
      have := zeros_mod b.length; omega
    · unfold F15; omega
  -- the length
  have e2 : ∀ (q : List V) (x y z : V), q.length ≤ 2 * lim → evalCode C55 F15 (.seq (fst1 (rt 3 a18.code)) (fst1 (rt 4 a18.code))) ⟨(32, x) :: (31, y) :: (30, z) :: (29, rowS s q) :: (sr0 s (.slc 1 b .none) q).tm, (sr0 s (.slc 1 b .none) q).st⟩ =
      some (.normal, ⟨(41, .bool false) :: (40, .int .i64 (-1)) :: (sr1 s b.length (-1) (q ++ tailB b.length)).tm, (sr1 s b.length (-1) (q ++ tailB b.length)).st⟩) := fun q x y z hq => by
    have hstep : ∀ i, i < 8 → ∃ s', evalCode C55 F15 b18_1 (sr1 s b.length (7 - (i : Nat)) (q ++ (tailB b.length).take i)) = some (.normal, s') ∧ clean [2, 3, 4, 5] kr1 s' = sr1 s b.length (7 - ((i + 1 : Nat) : Int)) (q ++ (tailB b.length).take (i + 1)) := fun i hi => by
      obtain ⟨s', h1, h2⟩ := rbody1 s hs b.length i hi (q ++ (tailB b.length).take i) (by simp only [List.length_append, List.length_take]; unfold lim at *; omega)
      refine ⟨s', h1, h2.trans ?_⟩
      have : (tailB b.length).take (i + 1) = (tailB b.length).take i ++ [lenB b.length (56 - 8 * i)] := by
        have h0 : i = 0 ∨ i = 1 ∨ i = 2 ∨ i = 3 ∨ i = 4 ∨ i = 5 ∨ i = 6 ∨ i = 7 := by omega
        rcases h0 with rfl | rfl | rfl | rfl | rfl | rfl | rfl | rfl <;> rfl
      rw [this, ← List.append_assoc]
    have hend := rexit1 s hs b.length (q ++ (tailB b.length).take 8)
    rcases hs with rfl | rfl
    all_goals
      refine (ev_seq (ev_region rfl)).trans ((ev_seq (ev_region rfl)).trans (ev_block (ev_loop (fun i => sr1 _ b.length (7 - (i : Nat)) (q ++ (tailB b.length).take i)) 8 ?_ hstep hend (by simp) (by unfold F15; omega))))
      simp only [List.take_zero, List.append_nil]
      rfl
  -- the blocks
  have e3 : ∀ s1 : St, clean [2, 3, 6, 7, 8] kr6 s1 = sr6 s (padded b).length (padded b) squaresW 0 → evalCode C55 F15 (match fst1 (rt 7 a18.code) with | .seq _ l => l | c => c) s1 = some (.normal, stT s (padded b).length (padded b) (foldH (padded b) (nBlocks (padded b))) (padded b).length) := fun s1 hs1 => by
    refine ev_block (ev_loop (ex := .exit 4) (fun i => sr6 s (padded b).length (padded b) (foldH (padded b) i) ((64 * i : Nat) : Int)) (nBlocks (padded b)) hs1 ?_ ?_ (by simp) ?_)
    · intro i hi
      obtain ⟨s', h1, h2⟩ := rbody6 s hs (padded b).length (padded b) (foldH (padded b) i) (64 * i) (kinds_padded hx) (by omega) (by unfold lim at *; omega)
      exact ⟨s', h1, h2⟩
    · have := rexit6 s hs (padded b).length (padded b) (foldH (padded b) (nBlocks (padded b)))
      rw [← hn]
      exact this
    · unfold F15; unfold nBlocks; rw [hpl]; unfold lim at hl; omega
  have hm := mid18 s hs (padded b).length b.length (padded b)
  unfold midE at hm
  split at hm <;> first | (cases hm; done) | skip
  rename_i s2 hmid
  have hm := Option.some.inj hm
  have hq : ((b ++ [u8 128]) ++ List.replicate (zeros b.length) (u8 0)).length ≤ 2 * lim := by simp only [List.length_append, List.length_singleton, List.length_replicate]; unfold lim at *; omega
  have e2' := e2 _ (.bool false) (.int .i64 (Int.tmod (((b ++ [u8 128]) ++ List.replicate (zeros b.length) (u8 0)).length : Int) 64)) (.int .i64 ((b ++ [u8 128]) ++ List.replicate (zeros b.length) (u8 0)).length) hq
  have ed : evalCode C55 F15 (rt 2 a18.code) s0 = evalCode C55 F15 (rt 8 a18.code) (stT s (padded b).length (padded b) (foldH (padded b) (nBlocks (padded b))) (padded b).length) := by
    refine (ev_seq e1).trans ?_
    have h34 : ∀ t t' : St, evalCode C55 F15 (.seq (fst1 (rt 3 a18.code)) (fst1 (rt 4 a18.code))) t = some (.normal, t') → evalCode C55 F15 (rt 3 a18.code) t = evalCode C55 F15 (rt 5 a18.code) t' := fun t t' ht => by
      show evalCode C55 F15 (.seq (fst1 (rt 3 a18.code)) (.seq (fst1 (rt 4 a18.code)) (rt 5 a18.code))) t = _
      simp only [evalCode] at ht ⊢
      cases h3 : evalCode C55 F15 (fst1 (rt 3 a18.code)) t with
      | none => rw [h3] at ht; simp at ht
      | some v =>
        obtain ⟨e, t3⟩ := v
        rw [h3] at ht
        cases e with
        | normal => simp only at ht ⊢; rw [ht]
        | exit j => simp at ht
        | ret => simp at ht
    refine (h34 _ _ e2').trans ?_
    have h57 : ∀ t t' t'' : St, evalCode C55 F15 midC t = some (.normal, t') → evalCode C55 F15 (match fst1 (rt 7 a18.code) with | .seq _ l => l | c => c) t' = some (.normal, t'') → evalCode C55 F15 (rt 5 a18.code) t = evalCode C55 F15 (rt 8 a18.code) t'' := fun t t' t'' ht ht' => by
      show evalCode C55 F15 (.seq (fst1 (rt 5 a18.code)) (.seq (fst1 (rt 6 a18.code)) (.seq (.seq (fst1 (fst1 (rt 7 a18.code))) (match fst1 (rt 7 a18.code) with | .seq _ l => l | c => c)) (rt 8 a18.code)))) t = _
      unfold midC at ht
      generalize (match fst1 (rt 7 a18.code) with | .seq _ l => l | c => c) = lo at *
      simp only [evalCode] at ht ⊢
      cases h5 : evalCode C55 F15 (fst1 (rt 5 a18.code)) t with
      | none => rw [h5] at ht; simp at ht
      | some v =>
        obtain ⟨e, t5⟩ := v
        rw [h5] at ht
        cases e with
        | normal =>
          simp only at ht ⊢
          cases h6 : evalCode C55 F15 (fst1 (rt 6 a18.code)) t5 with
          | none => rw [h6] at ht; simp at ht
          | some v =>
            obtain ⟨e, t6⟩ := v
            rw [h6] at ht
            cases e with
            | normal => simp only at ht ⊢; rw [ht]; simp only; rw [ht']
            | exit j => simp at ht
            | ret => simp at ht
        | exit j => simp at ht
        | ret => simp at ht
    have hmid' : evalCode C55 F15 midC ⟨(41, .bool false) :: (40, .int .i64 (-1)) :: (sr1 s b.length (-1) (((b ++ [u8 128]) ++ List.replicate (zeros b.length) (u8 0)) ++ tailB b.length)).tm, (sr1 s b.length (-1) (((b ++ [u8 128]) ++ List.replicate (zeros b.length) (u8 0)) ++ tailB b.length)).st⟩ = some (.normal, s2) := hmid
    exact h57 _ _ _ hmid' (e3 s2 hm)
  rw [ed]
  exact tail18 s hs _ _ _ _

theorem run18 (b : List V) (hx : kinds .u8 b = true) (hl : b.length ≤ lim) : AFn.run F15 C55 a18 [.slc 1 b .none] [] = some (.agg (shaV b), [], []) := by
  rw [run_endOf rfl]
  cases b with
  | nil =>
    have e : evalCode C55 F15 a18.code ⟨argTm 0 [.slc 1 [] .none], argObjs 0 []⟩ = evalCode C55 F15 (rt 2 a18.code) _ := (ev_seq (ev_region rfl)).trans (ev_seq (ev_region rfl))
    rw [e]
    exact rest18 28 (.inr rfl) [] hx hl _ rfl
  | cons x r =>
    have h1 : ([] : List V).length + (x :: r).length ≤ 1099511627776 := by simp only [List.length_nil]; unfold lim at hl; omega
    have h2 : (x :: r).length + [u8 128].length ≤ 1099511627776 := by simp only [List.length_singleton]; unfold lim at hl; omega
    have e : evalCode C55 F15 a18.code ⟨argTm 0 [.slc 1 (x :: r) .none], argObjs 0 []⟩ = evalCode C55 F15 (rt 2 a18.code) _ := (ev_seq (ev_region rfl)).trans (ev_seq (ev_region ((ops_cons rfl).trans ((ops_cons rfl).trans
      ((ops_cons (step_append_tight (xs := []) (ys := x :: r) rfl rfl rfl (by omega) h1 rfl)).trans ((ops_cons rfl).trans ((ops_cons (step_append_tok (xs := x :: r) (ys := [u8 128]) (k := .loc 26 0) (st := 0) rfl rfl (by simp only [List.length_nil]; rfl) (by omega) h2 rfl)).trans ((ops_cons rfl).trans ops_nil))))))))
    rw [e]
    refine rest18 26 (.inl rfl) (x :: r) hx hl _ ?_
    simp only [sr0, List.length_append, List.length_singleton, Nat.zero_add]
    rfl

def c18 : Contract := fun args objs =>
  match args, objs with
  | [.slc 1 xs .none], [] => if kinds .u8 xs = true ∧ xs.length ≤ lim then some (.agg (shaV xs), [], []) else none
  | _, _ => none
theorem h18' : Holds Tryd.prog G 18 c18 := (fn_holds s55 hM F15 Tryd.func18 p18 o18).less fun args objs x h => by
  unfold c18 at h
  split at h
  · rename_i xs
    split at h
    · rename_i hx
      cases h
      exact run18 xs hx.1 hx.2
    · cases h
  · cases h
end Go.Proofs.YtiiohfojejfolaaDoor
