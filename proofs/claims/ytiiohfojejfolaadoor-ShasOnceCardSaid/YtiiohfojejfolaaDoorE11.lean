/-
  What is proved: what ShasOnce answers, for any rows of bytes: true.
  Conditions: none.
-/
import Derived.Test.YtiiohfojejfolaaDoorE9
import Derived.Test.YtiiohfojejfolaaDoorE10
set_option linter.unusedVariables false
set_option linter.unusedSimpArgs false
namespace Go.Proofs.YtiiohfojejfolaaDoor
open Go Go.Ev Go.Proofs

section
variable {C : FuncId → Option Contract} {s : St}
theorem thin_kinds {k : IntKind} {cs : List V} (hks : kinds k cs = true) : cs.map V.thin = cs ∧ (cs.all fun c => c.frozen && c.isCell) = true := by
  induction cs with
  | nil => exact ⟨rfl, rfl⟩
  | cons x q ih =>
    simp only [kinds, List.all_cons, Bool.and_eq_true] at hks
    obtain ⟨i1, i2⟩ := ih (by simpa [kinds] using hks.2)
    cases x <;> simp [isU] at hks
    exact ⟨by rw [List.map_cons, i1]; rfl, by rw [List.all_cons, i2]; rfl⟩
theorem flatMap_kinds {k : IntKind} {cs : List V} (hks : kinds k cs = true) : cs.flatMap V.cellsOf = cs := by
  induction cs with
  | nil => rfl
  | cons x q ih =>
    simp only [kinds, List.all_cons, Bool.and_eq_true] at hks
    have := ih (by simpa [kinds] using hks.2)
    cases x <;> simp [isU] at hks
    simp only [List.flatMap_cons, V.cellsOf, List.singleton_append, this]
theorem source_view {σ : Store} {l : List Key} {k : Key} {n cap : Nat} {cs z : List V} (hk : σ.get k = some (.cells cs)) (hz : cs.take n = z) (hks : kinds .u8 z = true) (hl : z.length = n) :
    (source 1 (.view k 1 0 n cap)).run σ l = some (z, k :: l) := by
  have h := thin_kinds hks
  simp only [source, and_self, if_true, Act.run, hk, List.drop_zero, hz, h.1]
  rw [if_pos ⟨hl, h.2⟩]
  rfl
theorem step_callView' {d f a n cap : Nat} {k : Key} {c : Contract} {cs z : List V} {r : V} (hC : C f = some c) (h : s.tm.at a = .view k 1 0 n cap) (hnc : n ≤ cap) (hk : s.st.get k = some (.cells cs)) (hz : cs.take n = z) (hks : kinds .u8 z = true) (hl : z.length = n) (hc : c [.slc 1 z .none] [] = some (r, [], [])) (hr : r.flat = true) :
    Go.Ev.step C s ⟨some d, .call f [.t a], none⟩ = some (⟨(d, r) :: s.tm, s.st⟩, [k], []) := by
  have hsrc := source_view (l := []) (cap := cap) hk hz hks hl
  have : (act C d (AOpd.ev s.tm) (.call f [.t a])).run s.st [] = some (⟨r, []⟩, [k]) := by
    simp only [act, List.map_cons, List.map_nil, AOpd.ev, h, callBy, hC, lends, lend, hnc, and_self, if_true, bind_runF, hsrc, Act.run, List.any_cons, List.any_nil, isView, Bool.or_false, V.keyss, V.keys, List.append_nil, hc, hr, Act.just]
  exact step_of this
theorem bytesIn_kinds : ∀ {z : List V}, kinds .u8 z = true → bytesIn.go z = some (z.map fun v => UInt8.ofNat (numOf v).toNat)
  | [], _ => rfl
  | x :: q, h => by
    simp only [kinds, List.all_cons, Bool.and_eq_true] at h
    have := bytesIn_kinds (z := q) (by simpa [kinds] using h.2)
    cases x <;> simp [isU] at h
    rename_i k n
    obtain ⟨rfl, h⟩ := h
    simp only [bytesIn.go, this, Option.map_some, List.map_cons, numOf]
theorem step_stringOf {d a : Nat} {z : List V} {own : Own} (h : s.tm.at a = .slc 1 z own) (hks : kinds .u8 z = true) : Go.Ev.step C s ⟨some d, .stringOf (.t a), none⟩ = some (⟨(d, .str (strV z)) :: s.tm, s.st⟩, [], []) := by
  have : (act C d (AOpd.ev s.tm) (.stringOf (.t a))).run s.st [] = some (⟨.str (strV z), []⟩, []) := by
    simp only [act, AOpd.ev, h, source, if_true, bind_runF, Act.run, bytesIn, bytesIn_kinds hks, Option.map_some, Act.just, strV]
  exact step_of this
theorem step_stringView {d a n cap : Nat} {k : Key} {cs z : List V} (h : s.tm.at a = .view k 1 0 n cap) (hk : s.st.get k = some (.cells cs)) (hz : cs.take n = z) (hks : kinds .u8 z = true) (hl : z.length = n) :
    Go.Ev.step C s ⟨some d, .stringOf (.t a), none⟩ = some (⟨(d, .str (strV z)) :: s.tm, s.st⟩, [k], []) := by
  have hsrc := source_view (l := []) (cap := cap) hk hz hks hl
  have : (act C d (AOpd.ev s.tm) (.stringOf (.t a))).run s.st [] = some (⟨.str (strV z), []⟩, [k]) := by
    simp only [act, AOpd.ev, h, bind_runF, hsrc, bytesIn, bytesIn_kinds hks, Option.map_some, Act.just, Act.run, strV]
  exact step_of this
theorem step_neqStr {d a b : Nat} {x : ByteArray} (h1 : s.tm.at a = .str x) (h2 : s.tm.at b = .str x) : Go.Ev.step C s ⟨some d, .bin .num .neq (.t a) (.t b), none⟩ = some (⟨(d, .bool false) :: s.tm, s.st⟩, [], []) := by
  have : (act C d (AOpd.ev s.tm) (.bin .num .neq (.t a) (.t b))).run s.st [] = some (⟨.bool false, []⟩, []) := by
    simp only [act, AOpd.ev, h1, h2, binV, strOp, beq_self_eq_true, Bool.not_true, ofOpt, Act.bind, Act.just, Act.run]
  exact step_of this
theorem step_makeRow0 {d b L : Nat} {x : Int} {z : V} (h : s.tm.at b = .int .i64 x) (hx : x = (L : Int)) (hL : L ≤ 1099511627776) (hk : s.st.get (.loc d 0) = none) :
    Go.Ev.step C s ⟨some d, .makeRow z (.c (.int .i64 0)) (.t b), none⟩ = some (⟨(d, .view (.loc d 0) 1 0 0 L) :: s.tm, s.st.put (.loc d 0) (.cells (List.replicate L z))⟩, [.loc d 0], [.loc d 0]) := by
  subst hx
  have h1 : (0 : Int) ≤ L := by omega
  have h2 : (L : Int) ≤ 1099511627776 := by omega
  have : (act C d (AOpd.ev s.tm) (.makeRow z (.c (.int .i64 0)) (.t b))).run s.st [] = some (⟨.view (.loc d 0) 1 0 0 L, [(.loc d 0, .cells (List.replicate L z))]⟩, [.loc d 0]) := by
    simp only [act, AOpd.ev, h, h1, h2, Int.le_refl, and_self, if_true, Act.run, hk, Int.toNat_natCast, Int.toNat_zero]
  exact step_of this
theorem step_appendView {d a b cap : Nat} {k : Key} {cs z : List V} {o : Own} (h : s.tm.at a = .view k 1 0 0 cap) (hy : s.tm.at b = .slc 1 z o) (hk : s.st.get k = some (.cells cs)) (hks : kinds .u8 z = true) (hl : z.length ≤ cap) (hc : z.length ≤ cs.length) :
    Go.Ev.step C s ⟨some d, .append 1 1 (.t a) (.t b), none⟩ = some (⟨(d, .view k 1 0 z.length cap) :: s.tm, s.st.put k (.cells (z ++ cs.drop z.length))⟩, [k], [k]) := by
  have : (act C d (AOpd.ev s.tm) (.append 1 1 (.t a) (.t b))).run s.st [] = some (⟨.view k 1 0 z.length cap, [(k, .cells (z ++ cs.drop z.length))]⟩, [k]) := by
    simp only [act, AOpd.ev, h, hy, source, bind_runF, if_true, Act.run, appendTo, Nat.zero_add, hl, and_self, hk, hc, flatMap_kinds hks, splice, List.take_zero, List.nil_append]
  exact step_of this
theorem step_sliceView {d a b n m cap : Nat} {k : Key} {x : Int} (h : s.tm.at a = .view k 1 0 n cap) (hb : s.tm.at b = .int .i64 x) (hx : x = (m : Int)) (hm : m ≤ cap) :
    Go.Ev.step C s ⟨some d, .sliceS 1 (.t a) none (some (.t b)) none, none⟩ = some (⟨(d, .view k 1 0 m cap) :: s.tm, s.st⟩, [], []) := by
  subst hx
  have h1 : (0 : Int) ≤ m := by omega
  have h2 : (m : Int) ≤ cap := by omega
  have : (act C d (AOpd.ev s.tm) (.sliceS 1 (.t a) none (some (.t b)) none)).run s.st [] = some (⟨.view k 1 0 m cap, []⟩, []) := by
    simp only [act, AOpd.ev, h, Option.map_none, Option.map_some, hb, ne_eq, not_true_eq_false, if_false, h1, h2, and_self, if_true, Act.just, Act.run, Int.toNat_natCast]
  exact step_of this
theorem step_load1 {d a off : Nat} {k : Key} {cs : List V} {v : V} (h : s.tm.at a = .ptr k off) (hk : s.st.get k = some (.cells cs)) (hv : cs[off]? = some v) :
    Go.Ev.step C s ⟨some d, .load false 1 (.t a), none⟩ = some (⟨(d, v) :: s.tm, s.st⟩, [k], []) := by
  have ho : off < cs.length := (List.getElem?_eq_some_iff.1 hv).1
  have ht : (cs.drop off).take 1 = [v] := by
    rw [List.drop_eq_getElem_cons ho]
    have : cs[off] = v := by rw [List.getElem?_eq_getElem ho] at hv; exact Option.some.inj hv
    simp [this]
  have : (act C d (AOpd.ev s.tm) (.load false 1 (.t a))).run s.st [] = some (⟨v, []⟩, [k]) := by
    simp only [act, AOpd.ev, h, Act.run, hk, ht, List.length_singleton, if_true, V.mk, Bool.false_eq_true, if_false, List.headD_cons, Act.just]
  exact step_of this
end

/-! ### ShasOnce: the first loop -/
def C8 : FuncId → Option Contract := addC (addC noC 15 c15) 17 c17
theorem s8 : Sound Tryd.prog G C8 := (sound_noC.add Tryd.func15 (by kernel_rfl) h15').add Tryd.func17 (by kernel_rfl) h17'
def rowsV (rs : List (List V)) : V := .slc 1 (rs.map fun z => V.slc 1 z .none) .none
def sumsV (rs : List (List V)) : List V := rs.map fun z => V.agg (shaV z)
def fstV (rs : List (List V)) : V := .slc 32 (sumsV rs) (.tok (.loc 3 0) 0)
def good8 (rs : List (List V)) : Prop := ∀ z ∈ rs, kinds .u8 z = true
def g8 (rs : List (List V)) (i : Nat) : St := ⟨[(0, rowsV rs), (3, fstV (rs.take i)), (15, rowsV rs), (16, .int .i64 rs.length), (17, .int .i64 i)], [(.loc 3 0, .tok i)]⟩
def ks8 : List Nat := [12, 14, 3, 16, 32, 47, 49, 54, 56, 70, 79, 82, 85, 94]
theorem rows_get {rs : List (List V)} {i : Nat} {z : List V} (h : rs[i]? = some z) : (rs.map fun z => V.slc 1 z .none)[i]? = some (.slc 1 z .none) := by simp [h]
end Go.Proofs.YtiiohfojejfolaaDoor

namespace Go.Proofs.YtiiohfojejfolaaDoor
open Go Go.Ev Go.Proofs

theorem fin8a (s' : St) {rs : List (List V)} {i m : Nat} {k : Int} {F : V} (h0 : s'.tm.at 0 = rowsV rs) (h1 : s'.tm.at 3 = F) (hF : F = fstV (rs.take m)) (h2 : s'.tm.at 15 = rowsV rs) (h3 : s'.tm.at 16 = .int .i64 rs.length) (h4 : s'.tm.at 17 = .int .i64 k) (hk : k = (m : Int))
    (hst : s'.st = [(.loc 3 0, .tok i)]) (hi : i = m) : clean [0, 3, 15, 16, 17] ks8 s' = g8 rs m := by
  subst hk hi hF
  unfold clean
  simp only [cleanTm, h0, h1, h2, h3, h4, hst]
  rfl
/-- One row: it is short, and its sum is kept. -/
theorem body8a (rs : List (List V)) (i : Nat) (z : List V) (hz : rs[i]? = some z) (hk : kinds .u8 z = true) (hl : z.length ≤ 300) (hn : rs.length ≤ 12) :
    ∃ s', evalCode C8 F15 b8_0 (g8 rs i) = some (.normal, s') ∧ clean [0, 3, 15, 16, 17] ks8 s' = g8 rs (i + 1) := by
  have hi : i < rs.length := (List.getElem?_eq_some_iff.1 hz).1
  have hb : decide ((i : Int) < rs.length) = true := by simp; omega
  have hb2 : decide ((z.length : Int) > 300) = false := by simp; omega
  have hw : IntKind.i64.wrap ((i : Int) + 1) = ((i + 1 : Nat) : Int) := by rw [wrap_i64 _ (by omega) (by omega)]; omega
  have hc : c15 [.slc 1 z .none] [] = some (.agg (shaV z), [], []) := by simp only [c15, hk, true_and]; rw [if_pos (by unfold lim; omega)]
  have hlen : (sumsV (rs.take i)).length = i := by simp [sumsV]; omega
  have htake : sumsV (rs.take i) ++ [V.agg (shaV z)] = sumsV (rs.take (i + 1)) := by
    have : rs.take (i + 1) = rs.take i ++ [z] := by rw [List.take_add_one, hz]; rfl
    rw [this]; simp [sumsV]
  refine ⟨?_, ?_, ?_⟩
  rotate_left 1
  · refine (ev_seq (ev_region (s1 := ⟨(18, .bool (decide ((i : Int) < rs.length))) :: (g8 rs i).tm, (g8 rs i).st⟩) rfl)).trans ?_
    refine (ev_seq ((ev_true (by exact congrArg V.bool hb)).trans rfl)).trans ?_
    refine (ev_seq (ev_block_normal (s1 := ?_) ?_)).trans ?_
    rotate_left 1
    · refine (ev_seq (ev_region (s1 := ?_) ?_)).trans ?_
      rotate_left 1
      · refine (ops_cons (step_indexS (m := i) rfl rfl rfl (rows_get hz))).trans ?_
        refine (ops_cons rfl).trans ?_
        refine (ops_cons rfl).trans ?_
        exact ops_nil
      · refine (ev_seq (s1 := ?_) ((ev_seq (ev_region (s1 := ?_) ?_)).trans ?_)).trans ?_
        rotate_left 2
        · refine (ops_cons rfl).trans ?_
          refine (ops_cons rfl).trans ?_
          refine (ops_cons rfl).trans ?_
          exact ops_nil
        · refine (ev_false (by exact congrArg V.bool hb2)).trans ?_
          exact rfl
        · refine ev_region ?_
          refine (ops_cons rfl).trans ?_
          refine (ops_cons rfl).trans ?_
          refine (ops_cons (step_call (c := c15) (r := .agg (shaV z)) (vs' := [.slc 1 z .none]) rfl rfl (fun _ _ => rfl) rfl rfl rfl hc rfl)).trans ?_
          refine (ops_cons rfl).trans ?_
          refine (ops_cons (step_append_tok (xs := sumsV (rs.take i)) (ys := [V.agg (shaV z)]) (k := .loc 3 0) (st := 0) rfl rfl (by rw [hlen, Nat.zero_add]; rfl) (by rw [hlen]; simp only [List.length_singleton]; omega) (by rw [hlen]; simp only [List.length_singleton]; omega) rfl)).trans ?_
          refine (ops_cons rfl).trans ?_
          exact ops_nil
    · refine ev_region ?_
      refine (ops_cons rfl).trans ?_
      refine (ops_cons rfl).trans ?_
      exact ops_nil
  · exact fin8a (F := .slc 32 (sumsV (rs.take i) ++ [V.agg (shaV z)]) (.tok (.loc 3 0) 0)) (i := 0 + (sumsV (rs.take i)).length + [V.agg (shaV z)].length) (k := IntKind.i64.wrap ((i : Int) + 1)) _ rfl rfl (by rw [htake]; rfl) rfl rfl rfl hw rfl (by rw [hlen]; simp)
/-- One row that is too long: true at once. -/
theorem long8 (rs : List (List V)) (i : Nat) (z : List V) (hz : rs[i]? = some z) (hl : ¬ z.length ≤ 300) : ∃ s', evalCode C8 F15 b8_0 (g8 rs i) = some (.ret, s') ∧ s'.tm.at 2 = .bool true := by
  have hi : i < rs.length := (List.getElem?_eq_some_iff.1 hz).1
  have hb : decide ((i : Int) < rs.length) = true := by simp; omega
  have hb2 : decide ((z.length : Int) > 300) = true := by simp; omega
  refine ⟨?_, ?_, ?_⟩
  rotate_left 1
  · refine (ev_seq (ev_region (s1 := ⟨(18, .bool (decide ((i : Int) < rs.length))) :: (g8 rs i).tm, (g8 rs i).st⟩) rfl)).trans ?_
    refine (ev_seq ((ev_true (by exact congrArg V.bool hb)).trans rfl)).trans ?_
    refine ev_seq_out (ev_block_ret ?_) (by simp)
    refine (ev_seq (ev_region (s1 := ?_) ?_)).trans ?_
    rotate_left 1
    · refine (ops_cons (step_indexS (m := i) rfl rfl rfl (rows_get hz))).trans ?_
      refine (ops_cons rfl).trans ?_
      refine (ops_cons rfl).trans ?_
      exact ops_nil
    · refine ev_seq_out ?_ (by simp)
      refine (ev_seq (ev_region (s1 := ?_) ?_)).trans ?_
      rotate_left 1
      · refine (ops_cons rfl).trans ?_
        refine (ops_cons rfl).trans ?_
        refine (ops_cons rfl).trans ?_
        exact ops_nil
      · refine (ev_true (by exact congrArg V.bool hb2)).trans ?_
        refine (ev_seq (ev_region (s1 := ?_) ?_)).trans ?_
        rotate_left 1
        · refine (ops_cons rfl).trans ?_
          refine (ops_cons rfl).trans ?_
          exact ops_nil
        · exact rfl
  · rfl
theorem exit8a (rs : List (List V)) : evalCode C8 F15 b8_0 (g8 rs rs.length) = some (.exit 0, ⟨(18, .bool false) :: (g8 rs rs.length).tm, (g8 rs rs.length).st⟩) := by
  have hb : decide ((rs.length : Int) < rs.length) = false := by simp
  rw [← hb]
  refine (ev_seq (ev_region (s1 := ⟨(18, .bool (decide ((rs.length : Int) < rs.length))) :: (g8 rs rs.length).tm, (g8 rs rs.length).st⟩) rfl)).trans ?_
  refine ev_seq_out ?_ (by simp)
  exact (ev_false (by exact congrArg V.bool hb)).trans rfl
/-- The first loop: through, with all sums, or out, with true. -/
theorem loop8a (rs : List (List V)) (hg : good8 rs) (hn : rs.length ≤ 12) (s0 : St) (h0 : clean [0, 3, 15, 16, 17] ks8 s0 = g8 rs 0) :
    (evalCode C8 F15 (.loop [0, 3, 15, 16, 17] ks8 b8_0) s0 = some (.exit 0, ⟨(18, .bool false) :: (g8 rs rs.length).tm, (g8 rs rs.length).st⟩) ∧ ∀ z ∈ rs, z.length ≤ 300) ∨
    ∃ s', evalCode C8 F15 (.loop [0, 3, 15, 16, 17] ks8 b8_0) s0 = some (.ret, s') ∧ s'.tm.at 2 = .bool true := by
  by_cases hall : ∀ z ∈ rs, z.length ≤ 300
  · refine .inl ⟨ev_loop (fun i => g8 rs i) rs.length h0 (fun i hi => ?_) (exit8a rs) (by simp) (by unfold F15; omega), hall⟩
    have hz : rs[i]? = some rs[i] := List.getElem?_eq_getElem hi
    exact body8a rs i _ hz (hg _ (List.getElem_mem hi)) (hall _ (List.getElem_mem hi)) hn
  · refine .inr ?_
    -- the first that is too long
    have key : ∀ n : Nat, (∀ (i : Nat), i < n → ∀ z : List V, rs[i]? = some z → z.length ≤ 300) ∨ ∃ m : Nat, m < n ∧ (∀ (i : Nat), i < m → ∀ z : List V, rs[i]? = some z → z.length ≤ 300) ∧ ∃ z : List V, rs[m]? = some z ∧ ¬ z.length ≤ 300 := by
      intro n
      induction n with
      | zero => exact .inl fun i hi => by omega
      | succ n ih =>
        rcases ih with h | ⟨m, hm, h⟩
        · by_cases hz : ∀ z : List V, rs[n]? = some z → z.length ≤ 300
          · refine .inl fun i hi z hz' => ?_
            by_cases he : i = n
            · subst he; exact hz z hz'
            · exact h i (by omega) z hz'
          · refine .inr ⟨n, by omega, h, ?_⟩
            simp only [Classical.not_forall] at hz
            obtain ⟨z, h1, h2⟩ := hz
            exact ⟨z, h1, h2⟩
        · exact .inr ⟨m, by omega, h⟩
    rcases key rs.length with h | ⟨m, hm, h, z, hz, hl⟩
    · refine absurd (fun z hz => ?_) hall
      obtain ⟨i, hi⟩ := List.getElem?_of_mem hz
      exact h i (List.getElem?_eq_some_iff.1 hi).1 z hi
    · obtain ⟨s', h1, h2⟩ := long8 rs m z hz hl
      refine ⟨s', ev_loop (fun i => g8 rs i) m h0 (fun i hi => ?_) h1 (by simp) (by unfold F15; omega), h2⟩
      have hlt : i < rs.length := by omega
      have hz' : rs[i]? = some rs[i] := List.getElem?_eq_getElem hlt
      exact body8a rs i _ hz' (hg _ (List.getElem_mem hlt)) (h i hi _ hz') hn
end Go.Proofs.YtiiohfojejfolaaDoor

namespace Go.Proofs.YtiiohfojejfolaaDoor
open Go Go.Ev Go.Proofs

/-! ### the places behind a row -/
def spareC (z : List V) : List V := z ++ List.replicate 70 (u8 0)
def ksP : List Nat := [12, 14, 3, 16, 22, 24, 27, 28, 29, 32, 47, 49, 54, 56, 70, 79, 82, 94]
def p8 (rs : List (List V)) (z : List V) (i : Int) (k : Int) : St :=
  ⟨[(0, rowsV rs), (3, fstV rs), (6, .int .i64 i), (9, .view (.loc 49 0) 1 0 (z.length + 70) (z.length + 70)), (10, .int .i64 k)], [(.loc 3 0, .tok rs.length), (.loc 49 0, .cells (spareC z))]⟩
theorem spareC_kinds {z : List V} (hk : kinds .u8 z = true) : kinds .u8 (spareC z) = true := kinds_append hk (by rfl)
theorem spareC_len (z : List V) : (spareC z).length = z.length + 70 := by simp [spareC]
theorem finP (s' : St) {rs : List (List V)} {z : List V} {i k : Int} {m : Nat} (hz : kinds .u8 z = true) (h0 : s'.tm.at 0 = rowsV rs) (h1 : s'.tm.at 3 = fstV rs) (h2 : s'.tm.at 6 = .int .i64 i) (h3 : s'.tm.at 9 = .view (.loc 49 0) 1 0 (z.length + 70) (z.length + 70)) (h4 : s'.tm.at 10 = .int .i64 k) (hk : k = (m : Int))
    (hst : s'.st = [(.loc 3 0, .tok rs.length), (.loc 49 0, .cells (spareC z))]) : clean [0, 3, 6, 9, 10] ksP s' = p8 rs z i m := by
  subst hk
  unfold clean
  simp only [cleanTm, h0, h1, h2, h3, h4, hst]
  show St.mk _ [_, (Key.loc 49 0, Ev.Obj.cells (V.onlys (keepKey ksP) (spareC z)))] = _
  rw [onlys_kinds (spareC_kinds hz)]
  rfl
theorem bodyP (rs : List (List V)) (z : List V) (hz : kinds .u8 z = true) (hl : z.length ≤ 300) (i : Int) (j : Nat) (hj : j < 70) :
    ∃ s', evalCode C8 F15 b8_1 (p8 rs z i ((z.length + j : Nat) : Int)) = some (.normal, s') ∧ clean [0, 3, 6, 9, 10] ksP s' = p8 rs z i ((z.length + (j + 1) : Nat) : Int) := by
  have hb : decide (((z.length + j : Nat) : Int) < ((z.length + 70 : Nat) : Int)) = true := by simp; omega
  have hw : IntKind.i64.wrap (((z.length + j : Nat) : Int) + 1) = ((z.length + (j + 1) : Nat) : Int) := by rw [wrap_i64 _ (by omega) (by omega)]; omega
  have hat : (spareC z)[z.length + j]? = some (u8 0) := by
    unfold spareC
    rw [List.getElem?_append_right (by omega), show z.length + j - z.length = j by omega, List.getElem?_replicate, if_pos hj]
  refine ⟨?_, ?_, ?_⟩
  rotate_left 1
  · refine (ev_seq (s1 := ?_) ((ev_seq (ev_region (s1 := ?_) ?_)).trans ?_)).trans ?_
    rotate_left 2
    · refine (ops_cons rfl).trans ?_
      refine (ops_cons rfl).trans ?_
      refine (ops_cons rfl).trans ?_
      refine (ops_cons rfl).trans ?_
      exact ops_nil
    · refine (ev_true (by exact congrArg V.bool hb)).trans ?_
      exact rfl
    · refine (ev_seq (ev_block_normal (s1 := ?_) ?_)).trans ?_
      rotate_left 1
      · refine (ev_seq (ev_region (s1 := ?_) ?_)).trans ?_
        rotate_left 1
        · refine (ops_cons rfl).trans ?_
          refine (ops_cons rfl).trans ?_
          refine (ops_cons (step_indexView (j := z.length + j) rfl rfl (by omega))).trans ?_
          refine (ops_cons (step_load1 (cs := spareC z) rfl rfl hat)).trans ?_
          refine (ops_cons rfl).trans ?_
          exact ops_nil
        · refine (ev_false rfl).trans ?_
          exact rfl
      · refine ev_region ?_
        refine (ops_cons rfl).trans ?_
        refine (ops_cons rfl).trans ?_
        refine (ops_cons rfl).trans ?_
        exact ops_nil
  · exact finP _ hz rfl rfl rfl rfl rfl hw rfl
theorem exitP (rs : List (List V)) (z : List V) (i : Int) : ∃ s', evalCode C8 F15 b8_1 (p8 rs z i ((z.length + 70 : Nat) : Int)) = some (.exit 4, s') ∧ s'.tm.at 0 = rowsV rs ∧ s'.tm.at 3 = fstV rs ∧ s'.tm.at 6 = .int .i64 i ∧ s'.st = [(.loc 3 0, .tok rs.length), (.loc 49 0, .cells (spareC z))] := by
  have hb : decide (((z.length + 70 : Nat) : Int) < ((z.length + 70 : Nat) : Int)) = false := by simp
  refine ⟨?_, ?_, ?_⟩
  rotate_left 1
  · refine ev_seq_out ((ev_seq (ev_region (s1 := ?_) ?_)).trans ?_) (by simp)
    rotate_left 1
    · refine (ops_cons rfl).trans ?_
      refine (ops_cons rfl).trans ?_
      refine (ops_cons rfl).trans ?_
      refine (ops_cons rfl).trans ?_
      exact ops_nil
    · refine (ev_false (by exact congrArg V.bool hb)).trans ?_
      exact rfl
  · exact ⟨rfl, rfl, rfl, rfl⟩

/-! ### the second loop -/
def ksQ : List Nat := [12, 14, 3, 16, 22, 24, 27, 28, 29, 32, 94]
def q8 (rs : List (List V)) (i : Int) : St := ⟨[(0, rowsV rs), (3, fstV rs), (6, .int .i64 i)], [(.loc 3 0, .tok rs.length)]⟩
theorem finQ (s' : St) {rs : List (List V)} {cs : List V} {i : Int} (h0 : s'.tm.at 0 = rowsV rs) (h1 : s'.tm.at 3 = fstV rs) (h2 : s'.tm.at 6 = .int .i64 i)
    (hst : s'.st = [(.loc 3 0, .tok rs.length), (.loc 49 0, .cells cs)]) : clean [0, 3, 6] ksQ s' = q8 rs i := by
  unfold clean
  simp only [cleanTm, h0, h1, h2, hst]
  rfl
theorem sums_get {rs : List (List V)} {i : Nat} {z : List V} (h : rs[i]? = some z) : (sumsV rs)[i]? = some (.agg (shaV z)) := by simp [sumsV, h]
set_option maxHeartbeats 2000000 in
theorem body8b (rs : List (List V)) (i : Nat) (z : List V) (hz : rs[i]? = some z) (hk : kinds .u8 z = true) (hl : z.length ≤ 300) (hn : rs.length ≤ 12) :
    ∃ s', evalCode C8 F15 b8_2 (q8 rs i) = some (.normal, s') ∧ clean [0, 3, 6] ksQ s' = q8 rs ((i : Int) - 1) := by
  have hi : i < rs.length := (List.getElem?_eq_some_iff.1 hz).1
  have hb : decide ((i : Int) ≥ 0) = true := by simp
  have hw : IntKind.i64.wrap ((i : Int) - 1) = (i : Int) - 1 := by simp [IntKind.wrap, IntKind.bits, IntKind.signed]; omega
  have hcap : IntKind.i64.wrap ((z.length : Int) + 70) = ((z.length + 70 : Nat) : Int) := by rw [wrap_i64 _ (by omega) (by omega)]; omega
  have hc : c15 [.slc 1 z .none] [] = some (.agg (shaV z), [], []) := by simp only [c15, hk, true_and]; rw [if_pos (by unfold lim; omega)]
  have hsp : z ++ (List.replicate (z.length + 70) (V.int .u8 0)).drop z.length = spareC z := by
    rw [List.drop_replicate]
    unfold spareC
    congr 2
    omega
  have htk : (z ++ (List.replicate (z.length + 70) (V.int .u8 0)).drop z.length).take z.length = z := by rw [List.take_left]
  have heq : eqCells (shaV z) (shaV z) = some true := eqCells_kinds (k := .u8) rfl
  obtain ⟨sx, hx, x0, x1, x2, x3⟩ := exitP rs z i
  refine ⟨?_, ?_, ?_⟩
  rotate_left 1
  · refine (ev_seq (s1 := ?_) ((ev_seq (ev_region (s1 := ?_) ?_)).trans ?_)).trans ?_
    rotate_left 2
    · refine (ops_cons rfl).trans ?_
      refine (ops_cons rfl).trans ?_
      exact ops_nil
    · refine (ev_true (by exact congrArg V.bool hb)).trans ?_
      exact rfl
    · refine (ev_seq (ev_block_normal (s1 := ?_) ?_)).trans ?_
      rotate_left 1
      · -- what it was
        refine (ev_seq (ev_region (s1 := ?_) ?_)).trans ?_
        rotate_left 1
        · refine (ops_cons rfl).trans ?_
          refine (ops_cons rfl).trans ?_
          refine (ops_cons (step_indexS (m := i) rfl rfl rfl (rows_get hz))).trans ?_
          refine (ops_cons rfl).trans ?_
          refine (ops_cons (step_stringOf (z := z) (own := .none) rfl hk)).trans ?_
          refine (ops_cons rfl).trans ?_
          exact ops_nil
        -- another row of the same
        refine (ev_seq (ev_drawn (s1 := ?_) (logs := ?_) ?_ ?_)).trans ?_
        rotate_left 2
        · refine (log_cons rfl).trans ?_
          refine (log_cons rfl).trans ?_
          refine (log_cons (step_indexS (m := i) rfl rfl rfl (rows_get hz))).trans ?_
          refine (log_cons rfl).trans ?_
          refine (log_cons rfl).trans ?_
          refine (log_cons rfl).trans ?_
          refine (log_cons (step_makeRow0 (L := z.length + 70) rfl hcap (by omega) rfl)).trans ?_
          refine (log_cons rfl).trans ?_
          refine (log_cons rfl).trans ?_
          refine (log_cons (step_indexS (m := i) rfl rfl rfl (rows_get hz))).trans ?_
          refine (log_cons rfl).trans ?_
          refine (log_cons (step_appendView (z := z) (cap := z.length + 70) (o := .none) (cs := List.replicate (z.length + 70) (V.int .u8 0)) rfl rfl rfl hk (by omega) (by simp))).trans ?_
          refine (log_cons rfl).trans ?_
          rfl
        · kernel_rfl
        -- its sums
        refine (ev_seq (s1 := ?_) ((ev_seq (ev_drawn (s1 := ?_) (logs := ?_) ?_ ?_)).trans ?_)).trans ?_
        rotate_left 3
        · refine (log_cons rfl).trans ?_
          refine (log_cons (step_callView' (c := c15) (n := z.length) (cap := z.length + 70) (cs := z ++ (List.replicate (z.length + 70) (V.int .u8 0)).drop z.length) (z := z) rfl rfl (by omega) rfl htk hk rfl hc rfl)).trans ?_
          refine (log_cons rfl).trans ?_
          refine (log_cons rfl).trans ?_
          refine (log_cons (step_indexS (m := i) rfl rfl rfl (sums_get hz))).trans ?_
          refine (log_cons rfl).trans ?_
          refine (log_cons (step_eqAgg (xs := shaV z) rfl rfl rfl heq)).trans ?_
          refine (log_cons rfl).trans ?_
          refine (log_cons rfl).trans ?_
          refine (log_cons ((step_guard rfl).trans (step_stringView (n := z.length) (cap := z.length + 70) (cs := z ++ (List.replicate (z.length + 70) (V.int .u8 0)).drop z.length) (z := z) rfl rfl htk hk rfl))).trans ?_
          refine (log_cons rfl).trans ?_
          refine (log_cons ((step_guard rfl).trans (step_neqStr (x := strV z) rfl rfl))).trans ?_
          refine (log_cons rfl).trans ?_
          refine (log_cons rfl).trans ?_
          refine (log_cons rfl).trans ?_
          refine (log_cons ((step_guard rfl).trans (step_callView' (c := c15) (n := z.length) (cap := z.length + 70) (cs := z ++ (List.replicate (z.length + 70) (V.int .u8 0)).drop z.length) (z := z) rfl rfl (by omega) rfl htk hk rfl hc rfl))).trans ?_
          refine (log_cons rfl).trans ?_
          refine (log_cons rfl).trans ?_
          refine (log_cons ((step_guard rfl).trans (step_indexS (m := i) rfl rfl rfl (sums_get hz)))).trans ?_
          refine (log_cons rfl).trans ?_
          refine (log_cons ((step_guard rfl).trans (step_eqAgg (xs := shaV z) rfl rfl rfl heq))).trans ?_
          refine (log_cons rfl).trans ?_
          rfl
        · kernel_rfl
        · refine (ev_false rfl).trans ?_
          exact rfl
        -- its places
        refine (ev_seq (ev_region (s1 := ?_) ?_)).trans ?_
        rotate_left 1
        · refine (ops_cons rfl).trans ?_
          refine (ops_cons rfl).trans ?_
          refine (ops_cons rfl).trans ?_
          refine (ops_cons (step_sliceView (m := z.length + 70) rfl rfl rfl (by omega))).trans ?_
          refine (ops_cons rfl).trans ?_
          exact ops_nil
        refine (ev_seq (ev_region (s1 := ?_) ?_)).trans ?_
        rotate_left 1
        · refine (ops_cons rfl).trans ?_
          refine (ops_cons rfl).trans ?_
          refine (ops_cons rfl).trans ?_
          exact ops_nil
        refine ev_block (s1 := sx) ?_
        refine ev_loop (fun j => p8 rs z i ((z.length + j : Nat) : Int)) 70 ?_ (fun j hj => bodyP rs z hk hl i j hj) hx (by simp) (by unfold F15; omega)
        exact finP (m := z.length + 0) _ hk rfl rfl rfl rfl rfl rfl (congrArg (fun cs => [(Key.loc 3 0, Ev.Obj.tok rs.length), (Key.loc 49 0, Ev.Obj.cells cs)]) hsp)
      · refine ev_region ?_
        refine (ops_cons (step_of (an := ⟨.int .i64 i, []⟩) (rd := []) (by simp only [act, AOpd.ev, x2, Act.just, Act.run]))).trans ?_
        refine (ops_cons rfl).trans ?_
        refine (ops_cons rfl).trans ?_
        exact ops_nil
  · exact finQ _ x0 x1 (congrArg (V.int .i64) hw) x3
end Go.Proofs.YtiiohfojejfolaaDoor

namespace Go.Proofs.YtiiohfojejfolaaDoor
open Go Go.Ev Go.Proofs

theorem finish8 (s : St) (h : s.tm.at 2 = .bool true) : a8.finish 0 s = some (.bool true, [], []) := by
  have : readAll s a8.results = some [.bool true] := by
    show (match some (s.tm.at 2), readAll s [] with
      | some v, some vs => some (v :: vs)
      | _, _ => none) = _
    rw [h]
    rfl
  unfold AFn.finish
  rw [this]
  rfl
theorem exit8b (rs : List (List V)) : evalCode C8 F15 b8_2 (q8 rs (-1)) = some (.exit 2, ⟨(35, .bool false) :: (34, .int .i64 (-1)) :: (q8 rs (-1)).tm, (q8 rs (-1)).st⟩) := rfl
def s8a (xs : V) (n : Int) (e : Bool) : St := ⟨[(13, .bool e), (12, .int .i64 n), (11, xs), (2, .bool false), (0, xs)], []⟩
theorem k8_0 : (fun (l : List V) => evalCode C8 F15 (.seq (fst1 a8.code) (fst1 (fst1 (rt 1 a8.code)))) ⟨argTm 0 [.slc 1 l .none], argObjs 0 []⟩) = fun l => some (.normal, s8a (.slc 1 l .none) l.length (decide ((l.length : Int) > 12))) := by kernel_rfl
theorem k8_1 : (fun (l : List V) (n : Int) => endOf a8 (evalCode C8 F15 (.seq (rt 1 (fst1 (rt 1 a8.code))) (rt 2 a8.code)) (s8a (.slc 1 l .none) n true))) = fun l n => some (.bool true, [], []) := by kernel_rfl
theorem k8_2 : (fun (l : List V) (n : Int) => evalCode C8 F15 (.seq (rt 1 (fst1 (rt 1 a8.code))) (.seq (fst1 (rt 2 a8.code)) (fst1 (fst1 (rt 3 a8.code))))) (s8a (.slc 1 l .none) n false)) =
    fun l n => some (.normal, ⟨[(17, .int .i64 0), (16, .int .i64 l.length), (15, .slc 1 l .none), (3, .slc 32 [] (.tok (.loc 3 0) 0)), (13, .bool false), (12, .int .i64 n), (11, .slc 1 l .none), (2, .bool false), (0, .slc 1 l .none)], [(.loc 3 0, .tok 0)]⟩) := by kernel_rfl
theorem loop8_1 : rt 1 (fst1 (rt 3 a8.code)) = .block 0 (.loop [0, 3, 15, 16, 17] ks8 b8_0) := by kernel_rfl
theorem loop8_2 : rt 1 (fst1 (rt 4 a8.code)) = .block 2 (.loop [0, 3, 6] ksQ b8_2) := by kernel_rfl
def s8c (rs : List (List V)) (F : V) (n : Nat) : St := ⟨(18, .bool false) :: [(0, rowsV rs), (3, F), (15, rowsV rs), (16, .int .i64 rs.length), (17, .int .i64 n)], [(.loc 3 0, .tok n)]⟩
theorem k8_3 : (fun (rs : List (List V)) (F : V) (n : Nat) => evalCode C8 F15 (fst1 (fst1 (rt 4 a8.code))) (s8c rs F n)) =
    fun rs F n => some (.normal, ⟨(6, .int .i64 (IntKind.i64.wrap (((rs.map fun z => V.slc 1 z .none).length : Int) - 1))) :: (33, .int .i64 (IntKind.i64.wrap (((rs.map fun z => V.slc 1 z .none).length : Int) - 1))) :: (32, .int .i64 (rs.map fun z => V.slc 1 z .none).length) :: (31, rowsV rs) :: (s8c rs F n).tm, (s8c rs F n).st⟩) := by kernel_rfl
theorem k8_4 : (fun (t : Tm) (σ : Store) => evalCode C8 F15 (rt 5 a8.code) ⟨t, σ⟩) = fun t σ => some (.ret, ⟨(2, .bool true) :: (94, .bool true) :: t, σ⟩) := by kernel_rfl
theorem seq8 : (isSeq a8.code && isSeq (rt 1 a8.code) && isSeq (rt 2 a8.code) && isSeq (rt 3 a8.code) && isSeq (rt 4 a8.code) && isSeq (fst1 (rt 1 a8.code)) && isSeq (fst1 (rt 3 a8.code)) && isSeq (fst1 (rt 4 a8.code))) = true := by kernel_rfl
theorem two_parts {C : FuncId → Option Contract} {fuel : Nat} {x y : ACode} {s t : St} (h : evalCode C fuel (.seq x y) s = some (.normal, t)) : ∃ u, evalCode C fuel x s = some (.normal, u) ∧ evalCode C fuel y u = some (.normal, t) := by
  simp only [evalCode] at h
  split at h
  · rename_i u hu; exact ⟨u, hu, h⟩
  · rename_i hn; exact (hn t h).elim
theorem seq_of {c : ACode} (h : isSeq c = true) : c = .seq (fst1 c) (rt 1 c) := by
  cases c <;> simp [isSeq] at h
  rfl

def c8 : Contract := AFn.run F15 C8 a8
theorem h8' : Holds Tryd.prog G 8 c8 := fn_holds s8 hM F15 Tryd.func8 p8f o8f
theorem run8 (rs : List (List V)) (hg : good8 rs) : c8 [rowsV rs] [] = some (.bool true, [], []) := by
  have hs := seq8
  simp only [Bool.and_eq_true] at hs
  obtain ⟨⟨⟨⟨⟨⟨⟨i0, i1⟩, i2⟩, i3⟩, i4⟩, j1⟩, j3⟩, j4⟩ := hs
  unfold c8
  rw [run_endOf rfl]
  have q0 := congrFun k8_0 (rs.map fun z => V.slc 1 z .none)
  obtain ⟨u, hu1, hu2⟩ := two_parts q0
  have e1 : evalCode C8 F15 a8.code ⟨argTm 0 [rowsV rs], argObjs 0 []⟩ = evalCode C8 F15 (.seq (rt 1 (fst1 (rt 1 a8.code))) (rt 2 a8.code)) (s8a (rowsV rs) (rs.map fun z => V.slc 1 z .none).length (decide (((rs.map fun z => V.slc 1 z .none).length : Int) > 12))) := by
    refine (ev_fst _ i0 hu1).trans ?_
    rw [seq_of i1]
    have hx : ∀ (c d : ACode) (t t' : St), isSeq c = true → evalCode C8 F15 (fst1 c) t = some (.normal, t') → evalCode C8 F15 (.seq c d) t = evalCode C8 F15 (.seq (rt 1 c) d) t' := fun c d t t' hc ht => by
      simp only [evalCode]
      rw [ev_fst c hc ht]
    exact hx _ _ _ _ j1 hu2
  rw [e1]
  rw [List.length_map]
  by_cases hn : rs.length ≤ 12
  · have hd : decide ((rs.length : Int) > 12) = false := by simp; omega
    rw [hd]
    have q2 := congrFun (congrFun k8_2 (rs.map fun z => V.slc 1 z .none)) (rs.length : Int)
    obtain ⟨u1, hv1, hv2⟩ := two_parts q2
    obtain ⟨u2, hv3, hv4⟩ := two_parts hv2
    rw [show s8a (rowsV rs) (rs.length : Int) false = s8a (.slc 1 (rs.map fun z => V.slc 1 z .none) .none) (rs.length : Int) false from rfl, ev_seq hv1, ev_fst _ i2 hv3]
    -- the first loop
    have hcl : clean [0, 3, 15, 16, 17] ks8 ⟨[(17, .int .i64 0), (16, .int .i64 (rs.map fun z => V.slc 1 z .none).length), (15, .slc 1 (rs.map fun z => V.slc 1 z .none) .none), (3, .slc 32 [] (.tok (.loc 3 0) 0)), (13, .bool false), (12, .int .i64 rs.length), (11, .slc 1 (rs.map fun z => V.slc 1 z .none) .none), (2, .bool false), (0, .slc 1 (rs.map fun z => V.slc 1 z .none) .none)], [(.loc 3 0, .tok 0)]⟩ = g8 rs 0 := by
      rw [List.length_map]
      rfl
    rcases loop8a rs hg hn _ hcl with ⟨hloop, hall⟩ | ⟨s', hloop, hret⟩
    · have hL1 : evalCode C8 F15 (fst1 (rt 3 a8.code)) u2 = some (.normal, s8c rs (fstV (rs.take rs.length)) rs.length) := by
        refine (ev_fst _ j3 hv4).trans ?_
        rw [loop8_1]
        exact ev_block hloop
      rw [show rt 1 (rt 2 a8.code) = rt 3 a8.code from by kernel_rfl, ev_fst _ i3 hL1, List.take_length]
      have q3 := congrFun (congrFun (congrFun k8_3 rs) (fstV rs)) rs.length
      have hL2 : evalCode C8 F15 (fst1 (rt 4 a8.code)) (s8c rs (fstV rs) rs.length) = some (.normal, ⟨(35, .bool false) :: (34, .int .i64 (-1)) :: (q8 rs (-1)).tm, (q8 rs (-1)).st⟩) := by
        refine (ev_fst _ j4 q3).trans ?_
        rw [loop8_2]
        refine ev_block (ev_loop (fun j => q8 rs ((rs.length : Int) - 1 - (j : Nat))) rs.length ?_ (fun j hj => ?_) ?_ (by simp) (by unfold F15; omega))
        · have hw : IntKind.i64.wrap (((rs.map fun z => V.slc 1 z .none).length : Int) - 1) = (rs.length : Int) - 1 - ((0 : Nat) : Int) := by
            rw [List.length_map]; simp [IntKind.wrap, IntKind.bits, IntKind.signed]; omega
          show St.mk [(0, rowsV rs), (3, _), (6, V.int .i64 (IntKind.i64.wrap (((rs.map fun z => V.slc 1 z .none).length : Int) - 1)))] _ = _
          rw [hw]
          rfl
        · have hlt : rs.length - 1 - j < rs.length := by omega
          have hz : rs[rs.length - 1 - j]? = some rs[rs.length - 1 - j] := List.getElem?_eq_getElem hlt
          obtain ⟨s', b1, b2⟩ := body8b rs (rs.length - 1 - j) _ hz (hg _ (List.getElem_mem hlt)) (hall _ (List.getElem_mem hlt)) hn
          have e1 : ((rs.length - 1 - j : Nat) : Int) = (rs.length : Int) - 1 - (j : Nat) := by omega
          have e2 : (rs.length : Int) - 1 - (j : Nat) - 1 = (rs.length : Int) - 1 - ((j + 1 : Nat) : Int) := by omega
          rw [e1] at b1 b2
          rw [e2] at b2
          exact ⟨s', b1, b2⟩
        · have e1 : (rs.length : Int) - 1 - (rs.length : Nat) = -1 := by omega
          show evalCode C8 F15 b8_2 (q8 rs ((rs.length : Int) - 1 - (rs.length : Nat))) = _
          rw [e1]
          exact exit8b rs
      rw [show rt 1 (rt 3 a8.code) = rt 4 a8.code from by kernel_rfl, ev_fst _ i4 hL2, show rt 1 (rt 4 a8.code) = rt 5 a8.code from by kernel_rfl, congrFun (congrFun k8_4 _) _]
      exact finish8 ⟨(2, .bool true) :: (94, .bool true) :: (35, .bool false) :: (34, .int .i64 (-1)) :: (q8 rs (-1)).tm, (q8 rs (-1)).st⟩ rfl
    · have hL1 : evalCode C8 F15 (rt 3 a8.code) u2 = some (.ret, s') := by
        rw [seq_of i3]
        refine ev_seq_out ?_ (by simp)
        refine (ev_fst _ j3 hv4).trans ?_
        rw [loop8_1]
        exact ev_block_ret hloop
      rw [show rt 1 (rt 2 a8.code) = rt 3 a8.code from by kernel_rfl, hL1]
      exact finish8 s' hret
  · have hd : decide ((rs.length : Int) > 12) = true := by simp; omega
    rw [hd]
    exact congrFun (congrFun k8_1 (rs.map fun z => V.slc 1 z .none)) (rs.length : Int)
theorem c8_true (l0 : List (List Int)) (w0 : ∀ l ∈ l0, ∀ m ∈ l, (Lit.int .u8 m).wf = true) : c8 [.slc 1 (l0.map fun l => V.slc 1 (l.map (V.int .u8)) .none) .none] [] = some (.bool true, [], []) := by
  have : (l0.map fun l => V.slc 1 (l.map (V.int .u8)) .none) = (l0.map fun l => l.map (V.int .u8)).map fun z => V.slc 1 z .none := by rw [List.map_map]; rfl
  rw [this]
  refine run8 _ fun z hz => ?_
  obtain ⟨l, _, rfl⟩ := List.mem_map.1 hz
  simp only [kinds, List.all_eq_true]
  intro x hx
  obtain ⟨n, _, rfl⟩ := List.mem_map.1 hx
  simp [isU]
end Go.Proofs.YtiiohfojejfolaaDoor
