/-
  What is proved: what ShasBlocks answers, for any arguments: true.
  Conditions: none.
-/
import Derived.Test.YtiiohfojejfolaaDoorE8
set_option linter.unusedVariables false
set_option linter.unusedSimpArgs false
namespace Go.Proofs.YtiiohfojejfolaaDoor
open Go Go.Ev Go.Proofs

section
variable {C : FuncId → Option Contract} {s : St}
theorem step_of_none {op : AOp} {an : Ans} {rd : List Key} (h : (act C noSlot (AOpd.ev s.tm) op).run s.st [] = some (an, rd)) : Go.Ev.step C s ⟨none, op, none⟩ = some (⟨s.tm, s.st.puts an.up⟩, rd, an.up.map (·.1)) := by
  rw [step_eq]
  simp only [stepA, Option.getD_none, h, AOper.put]
theorem step_makeRow {d a L : Nat} {x : Int} {z : V} (h : s.tm.at a = .int .i64 x) (hx : x = (L : Int)) (hL : L ≤ 1099511627776) (hk : s.st.get (.loc d 0) = none) :
    Go.Ev.step C s ⟨some d, .makeRow z (.t a) (.t a), none⟩ = some (⟨(d, .view (.loc d 0) 1 0 L L) :: s.tm, s.st.put (.loc d 0) (.cells (List.replicate L z))⟩, [.loc d 0], [.loc d 0]) := by
  subst hx
  have h1 : (0 : Int) ≤ L := by omega
  have h2 : (L : Int) ≤ 1099511627776 := by omega
  have : (act C d (AOpd.ev s.tm) (.makeRow z (.t a) (.t a))).run s.st [] = some (⟨.view (.loc d 0) 1 0 L L, [(.loc d 0, .cells (List.replicate L z))]⟩, [.loc d 0]) := by
    simp only [act, AOpd.ev, h, h1, h2, Int.le_refl, and_self, if_true, Act.run, hk, Int.toNat_natCast]
  exact step_of this
theorem step_indexView {d a b j L : Nat} {k : Key} {kk : IntKind} (h : s.tm.at a = .view k 1 0 L L) (hi : s.tm.at b = .int kk (j : Int)) (hj : j < L) :
    Go.Ev.step C s ⟨some d, .indexS 1 (.t a) (.t b), none⟩ = some (⟨(d, .ptr k j) :: s.tm, s.st⟩, [], []) := by
  have h1 : (0 : Int) ≤ j := by omega
  have h2 : (j : Int) < L := by omega
  have : (act C d (AOpd.ev s.tm) (.indexS 1 (.t a) (.t b))).run s.st [] = some (⟨.ptr k j, []⟩, []) := by
    simp only [act, AOpd.ev, h, hi, h1, h2, and_self, if_true, Act.just, Act.run, Int.toNat_natCast, Nat.mul_one, Nat.zero_add]
  exact step_of this
theorem step_store1 {a x off : Nat} {k : Key} {v : Int} {kd : IntKind} {cs : List V} (h : s.tm.at a = .ptr k off) (hx : s.tm.at x = .int kd v) (hk : s.st.get k = some (.cells cs)) (ho : off < cs.length) :
    Go.Ev.step C s ⟨none, .store 1 (.t a) (.t x), none⟩ = some (⟨s.tm, s.st.put k (.cells (splice cs off [.int kd v]))⟩, [k], [k]) := by
  have h1 : off + 1 ≤ cs.length := by omega
  have : (act C noSlot (AOpd.ev s.tm) (.store 1 (.t a) (.t x))).run s.st [] = some (⟨.tuple [], [(k, .cells (splice cs off [.int kd v]))]⟩, [k]) := by
    simp only [act, AOpd.ev, h, hx, Act.run, hk, V.cellsOf, List.length_singleton, h1, List.all_cons, List.all_nil, V.isCell, Bool.and_self, and_self, if_true, forceL_eq]
  exact step_of_none this
theorem step_callView {d f a L : Nat} {k : Key} {c : Contract} {cs : List V} {r : V} (hC : C f = some c) (h : s.tm.at a = .view k 1 0 L L) (hk : s.st.get k = some (.cells cs)) (hks : kinds .u8 cs = true) (hl : cs.length = L) (hc : c [.slc 1 cs .none] [] = some (r, [], [])) (hr : r.flat = true) :
    Go.Ev.step C s ⟨some d, .call f [.t a], none⟩ = some (⟨(d, r) :: s.tm, s.st⟩, [k], []) := by
  have hthin : cs.map V.thin = cs ∧ (cs.all fun c => c.frozen && c.isCell) = true := by
    clear hl hc hk
    induction cs with
    | nil => exact ⟨rfl, rfl⟩
    | cons x q ih =>
      simp only [kinds, List.all_cons, Bool.and_eq_true] at hks
      obtain ⟨i1, i2⟩ := ih (by simpa [kinds] using hks.2)
      cases x <;> simp [isU] at hks
      exact ⟨by rw [List.map_cons, i1]; rfl, by rw [List.all_cons, i2]; rfl⟩
  have hsrc : (source 1 (.view k 1 0 L L)).run s.st [] = some (cs, [k]) := by
    simp only [source, and_self, if_true, Act.run, hk, List.drop_zero]
    rw [List.take_of_length_le (by omega), hthin.1, if_pos ⟨hl, hthin.2⟩]
    rfl
  have : (act C d (AOpd.ev s.tm) (.call f [.t a])).run s.st [] = some (⟨r, []⟩, [k]) := by
    simp only [act, List.map_cons, List.map_nil, AOpd.ev, h, callBy, hC, lends, lend, Nat.le_refl, and_self, if_true, bind_runF, hsrc, Act.run, List.any_cons, List.any_nil, isView, Bool.or_false, V.keyss, V.keys, List.append_nil, hc, hr, Act.just]
  exact step_of this
end
theorem onlys_kinds {k : IntKind} {p : Key → Bool} : ∀ {cs : List V}, kinds k cs = true → V.onlys p cs = cs
  | [], _ => rfl
  | x :: q, h => by
    simp only [kinds, List.all_cons, Bool.and_eq_true] at h
    have := onlys_kinds (k := k) (p := p) (cs := q) (by simpa [kinds] using h.2)
    cases x <;> simp [isU] at h
    simp only [V.onlys, V.only, this]

/-! ### ShasBlocks -/
def C5 : FuncId → Option Contract := addC (addC (addC noC 15 c15) 18 c18) 17 c17
theorem s5 : Sound Tryd.prog G C5 := ((sound_noC.add Tryd.func15 (by kernel_rfl) h15').add Tryd.func18 (by kernel_rfl) h18').add Tryd.func17 (by kernel_rfl) h17'
def val5 (n y : Int) (j : Nat) : V := u8 (IntKind.u8.wrap (y + IntKind.u8.wrap (IntKind.i64.wrap (BitVec.ofInt 64 (IntKind.i64.wrap ((j : Int) * n)) &&& BitVec.ofInt 64 7).toNat)))
def cells5 (n y : Int) (L j : Nat) : List V := (List.range j).map (val5 n y) ++ List.replicate (L - j) (u8 0)
theorem cells5_len (n y : Int) (L j : Nat) (h : j ≤ L) : (cells5 n y L j).length = L := by simp [cells5]; omega
theorem cells5_kinds (n y : Int) (L j : Nat) : kinds .u8 (cells5 n y L j) = true := by
  refine kinds_append ?_ ?_
  · simp only [kinds, List.all_eq_true]
    intro x hx
    obtain ⟨i, _, rfl⟩ := List.mem_map.1 hx
    simp [val5, u8, isU]
  · simp only [kinds, List.all_replicate]
    cases L - j <;> simp [u8, isU]
theorem cells5_next (n y : Int) (L j : Nat) (h : j < L) : splice (cells5 n y L j) j [val5 n y j] = cells5 n y L (j + 1) := by
  unfold splice cells5
  rw [List.take_append_of_le_length (by simp), List.take_of_length_le (by simp), List.drop_append, List.range_succ, List.map_append]
  simp only [List.length_map, List.length_range, List.length_singleton, List.map_cons, List.map_nil]
  rw [List.drop_of_length_le (by simp), List.nil_append, List.append_assoc, List.append_assoc]
  congr 2
  rw [List.drop_replicate]
  congr 1
  omega
def ks5 : List Nat := [17, 19, 35, 37, 39]
def in5 (n y k : Int) (L : Nat) (cs : List V) (j : Int) : St := ⟨[(0, .int .i64 n), (1, .int .u8 y), (5, .int .i64 k), (6, .view (.loc 17 0) 1 0 L L), (19, .int .i64 L), (20, .int .i64 j)], [(.loc 17 0, .cells cs)]⟩
theorem fin5 (s' : St) {n y k : Int} {L : Nat} {cs cs' : List V} {j : Int} (h0 : s'.tm.at 0 = .int .i64 n) (h1 : s'.tm.at 1 = .int .u8 y) (h2 : s'.tm.at 5 = .int .i64 k) (h3 : s'.tm.at 6 = .view (.loc 17 0) 1 0 L L) (h4 : s'.tm.at 19 = .int .i64 L) (h5 : s'.tm.at 20 = .int .i64 j)
    (hst : s'.st = [(.loc 17 0, .cells cs)]) (hcs : cs = cs') (hk : kinds .u8 cs' = true) : clean [0, 1, 5, 6, 19, 20] ks5 s' = in5 n y k L cs' j := by
  subst hcs
  unfold clean
  simp only [cleanTm, h0, h1, h2, h3, h4, h5, hst]
  show St.mk _ [(Key.loc 17 0, Ev.Obj.cells (V.onlys (keepKey ks5) cs))] = _
  rw [onlys_kinds hk]
  rfl
set_option maxHeartbeats 1000000 in
theorem inner5 (n y k : Int) (L j : Nat) (hj : j < L) (hL : L ≤ 100000) : ∃ s', evalCode C5 F15 b5_0 (in5 n y k L (cells5 n y L j) j) = some (.normal, s') ∧ clean [0, 1, 5, 6, 19, 20] ks5 s' = in5 n y k L (cells5 n y L (j + 1)) ((j + 1 : Nat) : Int) := by
  have hb : decide ((j : Int) < L) = true := by simp; omega
  have hlen := cells5_len n y L j (by omega)
  have hw : IntKind.i64.wrap ((j : Int) + 1) = ((j + 1 : Nat) : Int) := by rw [wrap_i64 _ (by omega) (by omega)]; omega
  refine ⟨?_, ?_, ?_⟩
  rotate_left 1
  · refine (ev_seq (ev_region (s1 := ⟨(21, .bool (decide ((j : Int) < L))) :: (in5 n y k L (cells5 n y L j) j).tm, (in5 n y k L (cells5 n y L j) j).st⟩) rfl)).trans ?_
    refine (ev_seq ((ev_true (by exact congrArg V.bool hb)).trans rfl)).trans ?_
    refine (ev_seq (ev_block_normal (s1 := ?_) ?_)).trans ?_
    rotate_left 1
    · refine (ev_seq (ev_region rfl)).trans (ev_region ?_)
      refine (ops_cons rfl).trans ?_
      refine (ops_cons rfl).trans ?_
      refine (ops_cons rfl).trans ?_
      refine (ops_cons rfl).trans ?_
      refine (ops_cons rfl).trans ?_
      refine (ops_cons rfl).trans ?_
      refine (ops_cons rfl).trans ?_
      refine (ops_cons rfl).trans ?_
      refine (ops_cons rfl).trans ?_
      refine (ops_cons (step_indexView (j := j) rfl rfl hj)).trans ?_
      refine (ops_cons (step_store1 (cs := cells5 n y L j) rfl rfl rfl (by rw [hlen]; exact hj))).trans ?_
      exact ops_nil
    · refine ev_region ?_
      refine (ops_cons rfl).trans ?_
      refine (ops_cons rfl).trans ?_
      exact ops_nil
  · exact fin5 _ rfl rfl rfl rfl rfl (congrArg (V.int .i64) hw) rfl (cells5_next n y L j hj) (cells5_kinds n y L (j + 1))
theorem exit5 (n y k : Int) (L : Nat) (cs : List V) : evalCode C5 F15 b5_0 (in5 n y k L cs (L : Nat)) = some (.exit 2, ⟨(21, .bool false) :: (in5 n y k L cs (L : Nat)).tm, (in5 n y k L cs (L : Nat)).st⟩) := by
  have hb : decide ((L : Int) < L) = false := by simp
  rw [← hb]
  refine (ev_seq (ev_region (s1 := ⟨(21, .bool (decide ((L : Int) < L))) :: (in5 n y k L cs (L : Nat)).tm, (in5 n y k L cs (L : Nat)).st⟩) rfl)).trans ?_
  refine ev_seq_out ?_ (by simp)
  exact (ev_false (by exact congrArg V.bool hb)).trans rfl
def out5 (n y k : Int) : St := ⟨[(0, .int .i64 n), (1, .int .u8 y), (5, .int .i64 k)], []⟩
theorem fin5o (s' : St) {n y k : Int} {cs : List V} (h0 : s'.tm.at 0 = .int .i64 n) (h1 : s'.tm.at 1 = .int .u8 y) (h2 : s'.tm.at 5 = .int .i64 k) (hst : s'.st = [(.loc 17 0, .cells cs)]) : clean [0, 1, 5] [39] s' = out5 n y k := by
  unfold clean
  simp only [cleanTm, h0, h1, h2, hst]
  rfl
set_option maxHeartbeats 1000000 in
theorem outer5 (n y : Int) (K : Nat) (hK : K < 66) : ∃ s', evalCode C5 F15 b5_1 (out5 n y K) = some (.normal, s') ∧ clean [0, 1, 5] [39] s' = out5 n y ((K + 1 : Nat) : Int) := by
  have hb : decide ((K : Int) < 66) = true := by simp; omega
  obtain ⟨r, hr, he⟩ := andI_lt n 3 (by omega)
  have hL : IntKind.i64.wrap ((K : Int) + IntKind.i64.wrap (64 * andI n 3)) = ((K + 64 * r : Nat) : Int) := by
    rw [he, wrap_i64 (64 * (r : Int)) (by omega) (by omega), wrap_i64 _ (by omega) (by omega)]; omega
  have hw : IntKind.i64.wrap ((K : Int) + 1) = ((K + 1 : Nat) : Int) := by rw [wrap_i64 _ (by omega) (by omega)]; omega
  generalize hLd : K + 64 * r = L at hL
  have hLle : L ≤ 100000 := by omega
  have hlen := cells5_len n y L L (Nat.le_refl _)
  have hkin := cells5_kinds n y L L
  have hc1 : c15 [.slc 1 (cells5 n y L L) .none] [] = some (.agg (shaV (cells5 n y L L)), [], []) := by simp only [c15, hkin, hlen, true_and]; rw [if_pos (by unfold lim; omega)]
  have hc2 : c18 [.slc 1 (cells5 n y L L) .none] [] = some (.agg (shaV (cells5 n y L L)), [], []) := by simp only [c18, hkin, hlen, true_and]; rw [if_pos (by unfold lim; omega)]
  have heq : eqCells (shaV (cells5 n y L L)) (shaV (cells5 n y L L)) = some true := eqCells_kinds (k := .u8) rfl
  refine ⟨?_, ?_, ?_⟩
  rotate_left 1
  · refine (ev_seq ((ev_seq (ev_region (s1 := ⟨(9, .bool (decide ((K : Int) < 66))) :: (8, .int .i64 (K : Int)) :: (out5 n y K).tm, []⟩) rfl)).trans ((ev_true (by exact congrArg V.bool hb)).trans rfl))).trans ?_
    refine (ev_seq (ev_block_normal (s1 := ?_) ?_)).trans ?_
    rotate_left 1
    · refine (ev_seq (ev_region (s1 := ?_) ?_)).trans ?_
      rotate_left 1
      · refine (ops_cons rfl).trans ?_
        refine (ops_cons rfl).trans ?_
        refine (ops_cons rfl).trans ?_
        refine (ops_cons rfl).trans ?_
        refine (ops_cons rfl).trans ?_
        refine (ops_cons (step_makeRow rfl hL (by omega) rfl)).trans ?_
        refine (ops_cons rfl).trans ?_
        exact ops_nil
      · refine (ev_seq ((ev_seq (ev_region (s1 := ?_) ?_)).trans (ev_block (ev_loop (fun j => in5 n y K L (cells5 n y L j) j) L ?_ (fun j hj => inner5 n y K L j hj hLle) (exit5 n y K L _) (by simp) (by unfold F15; omega))))).trans ?_
        rotate_left 1
        · refine (ops_cons rfl).trans ?_
          refine (ops_cons rfl).trans ?_
          refine (ops_cons rfl).trans ?_
          exact ops_nil
        · exact fin5 _ rfl rfl rfl rfl rfl rfl rfl (by simp [cells5, u8]) (cells5_kinds n y L 0)
        · refine (ev_seq (ev_region (s1 := ?_) ?_)).trans ?_
          rotate_left 1
          · refine (ops_cons rfl).trans ?_
            refine (ops_cons (step_callView (c := c15) (cs := cells5 n y L L) (L := L) rfl rfl rfl hkin hlen hc1 rfl)).trans ?_
            refine (ops_cons rfl).trans ?_
            refine (ops_cons (step_callView (c := c18) (cs := cells5 n y L L) (L := L) rfl rfl rfl hkin hlen hc2 rfl)).trans ?_
            refine (ops_cons (step_eqAgg (xs := shaV (cells5 n y L L)) rfl rfl rfl heq)).trans ?_
            exact ops_nil
          · refine (ev_false rfl).trans ?_
            exact rfl
    · refine ev_region ?_
      refine (ops_cons rfl).trans ?_
      refine (ops_cons rfl).trans ?_
      refine (ops_cons rfl).trans ?_
      exact ops_nil
  · exact fin5o _ rfl rfl (congrArg (V.int .i64) hw) rfl
def x5 (n y : Int) : St := ⟨(9, .bool false) :: (8, .int .i64 66) :: (out5 n y 66).tm, []⟩
theorem exit5o (n y : Int) : evalCode C5 F15 b5_1 (out5 n y 66) = some (.exit 0, x5 n y) := rfl
theorem k5_0 : (fun n y => evalCode C5 F15 (fst1 a5.code) ⟨argTm 0 [.int .i64 n, .int .u8 y], argObjs 0 []⟩) = fun n y => some (.normal, ⟨[(4, .bool false), (0, .int .i64 n), (1, .int .u8 y)], []⟩) := by kernel_rfl
theorem k5_1 : (fun n y => evalCode C5 F15 (fst1 (fst1 (rt 1 a5.code))) ⟨[(4, .bool false), (0, .int .i64 n), (1, .int .u8 y)], []⟩) = fun n y => some (.normal, ⟨[(5, .int .i64 50), (4, .bool false), (0, .int .i64 n), (1, .int .u8 y)], []⟩) := by kernel_rfl
theorem k5_2 : (fun n y => endOf a5 (evalCode C5 F15 (rt 2 a5.code) (x5 n y))) = fun n y => some (.bool true, [], []) := by kernel_rfl
theorem loop5 : rt 1 (fst1 (rt 1 a5.code)) = .block 0 (.loop [0, 1, 5] [39] b5_1) := by kernel_rfl
theorem seq5 : (isSeq a5.code && isSeq (rt 1 a5.code) && isSeq (fst1 (rt 1 a5.code))) = true := by kernel_rfl
def c5 : Contract := AFn.run F15 C5 a5
theorem h5' : Holds Tryd.prog G 5 c5 := fn_holds s5 hM F15 Tryd.func5 p5 o5
theorem c5_true (n : Int) (wn : (Lit.int .i64 n).wf = true) (y : Int) (wy : (Lit.int .u8 y).wf = true) : c5 [.int .i64 n, .int .u8 y] [] = some (.bool true, [], []) := by
  have hs := seq5
  simp only [Bool.and_eq_true] at hs
  obtain ⟨⟨i0, i1⟩, i2⟩ := hs
  unfold c5
  rw [run_endOf rfl]
  have hloop : evalCode C5 F15 (fst1 (rt 1 a5.code)) ⟨[(4, .bool false), (0, .int .i64 n), (1, .int .u8 y)], []⟩ = some (.normal, x5 n y) := by
    refine (ev_fst _ i2 (congrFun (congrFun k5_1 n) y)).trans ?_
    rw [loop5]
    refine ev_block (ev_loop (fun i => out5 n y ((50 + i : Nat) : Int)) 16 rfl ?_ (exit5o n y) (by simp) (by unfold F15; omega))
    intro i hi
    exact outer5 n y (50 + i) (by omega)
  rw [ev_fst _ i0 (congrFun (congrFun k5_0 n) y), ev_fst _ i1 hloop]
  exact congrFun (congrFun k5_2 n) y
end Go.Proofs.YtiiohfojejfolaaDoor
