/-
  What is proved: what the document's Sum computes, for any bytes that are not too many: the same as shas.Sum. A block whole, and the sum.
  Conditions: none.
-/
import Derived.Test.YtiiohfojejfolaaDoorD6
set_option linter.unusedVariables false
set_option linter.unusedSimpArgs false
namespace Go.Proofs.YtiiohfojejfolaaDoor
open Go Go.Ev Go.Proofs

def rnd2 (s : W8) (k w : Int) : W8 :=
  let s1 := xor32 (xor32 (rotr s.e 6) (rotr s.e 11)) (rotr s.e 25)
  let pick := xor32 (and32 s.e s.f) (and32 (not32 s.e) s.g)
  let t1 := add32 (add32 (add32 (add32 s.h s1) pick) k) w
  let s0 := xor32 (xor32 (rotr s.a 2) (rotr s.a 13)) (rotr s.a 22)
  let most := xor32 (xor32 (and32 s.a s.b) (and32 s.a s.c)) (and32 s.b s.c)
  ⟨add32 t1 (add32 s0 most), s.a, s.b, s.c, add32 s.d t1, s.e, s.f, s.g⟩
def rounds2 (w : Nat → Int) : List Int → Nat → W8 → W8
  | [], _, s => s
  | k :: r, i, s => rounds2 w r (i + 1) (rnd2 s k (w i))
def mixW2 (h : W8) (w : Nat → Int) : W8 := addW h (rounds2 w cubesI 0 h)
theorem rnd2_eq (s : W8) (k w : Int) : rnd2 s k w = rnd s k w := by simp only [rnd2, rnd, add32_assoc]
theorem rounds2_eq (w : Nat → Int) : ∀ (l : List Int) (i : Nat) (s : W8), rounds2 w l i s = rounds w l i s
  | [], _, _ => rfl
  | k :: r, i, s => by rw [rounds2, rounds, rnd2_eq, rounds2_eq w r]
theorem mixW2_eq (h : W8) (w : Nat → Int) : mixW2 h w = mixW h w := by
  unfold mixW2 mixW
  rw [rounds2_eq]
  simp only [addW, add32_comm]

/-! ### the other words, and the rounds -/
def blockX : ACode := match rt 1 b18_6 with | .seq (.block _ x) _ => x | c => c
def incX : ACode := rt 2 b18_6
def swx (s n : Nat) (p : List V) (h : W8) (at_ : Int) (ws : List V) : St :=
  ⟨(62, .bool false) :: (61, .int .i64 16) :: (sw s n p h at_ ws 16).tm, (sw s n p h at_ ws 16).st⟩
def ssx (s n : Nat) (p : List V) (h : W8) (at_ : Int) (ws : List V) : St :=
  ⟨[(101, .bool false), (100, .int .i64 64), (2, pt 2), (3, rowS s p), (6, pt 6), (7, pt 7), (8, .int .i64 at_), (9, pt 9), (12, .int .i64 64)], (sw s n p h at_ ws 16).st⟩
def fst1 : ACode → ACode
  | .seq a _ => a
  | c => c
theorem schedS26 : (fun (n : Nat) (p : List V) (h : W8) (at_ : Int) (w : Nat → Int) => evalCode C55 F15 (fst1 (rt 2 blockX)) (swx 26 n p h at_ (wsAt w 16))) =
    fun n p h at_ w => some (.normal, ssx 26 n p h at_ ((grow 48 ((List.range 16).map w)).map u32)) := by kernel_rfl
def sr6 (s n : Nat) (p : List V) (h : W8) (at_ : Int) : St :=
  ⟨[(2, pt 2), (3, rowS s p), (6, pt 6), (7, pt 7), (8, .int .i64 at_)], [(.loc 2 0, .cells z32), (.loc s 0, .tok n), (.loc 6 0, .cells cubes), (.loc 7 0, .cells h.l)]⟩
def kr6 : List Nat := [2, 24, 26, 27, 28, 30, 34, 35, 37, 51, 52, 53, 6, 7, 22]
def endX (r : Option (Ex × St)) : Option St := match r with
  | some (.normal, s) => (match evalCode C55 F15 incX s with
    | some (.normal, s') => some (clean [2, 3, 6, 7, 8] kr6 s')
    | _ => none)
  | _ => none
theorem mixS26 : (fun (n : Nat) (p : List V) (h : W8) (at_ : Int) (w : Nat → Int) => endX (evalCode C55 F15 (rt 3 blockX) (ssx 26 n p h at_ (wl w)))) =
    fun n p h at_ w => some (sr6 26 n p (mixW2 h w) (IntKind.i64.wrap (at_ + 64))) := by kernel_rfl
theorem schedS28 : (fun (n : Nat) (p : List V) (h : W8) (at_ : Int) (w : Nat → Int) => evalCode C55 F15 (fst1 (rt 2 blockX)) (swx 28 n p h at_ (wsAt w 16))) =
    fun n p h at_ w => some (.normal, ssx 28 n p h at_ ((grow 48 ((List.range 16).map w)).map u32)) := by kernel_rfl
theorem mixS28 : (fun (n : Nat) (p : List V) (h : W8) (at_ : Int) (w : Nat → Int) => endX (evalCode C55 F15 (rt 3 blockX) (ssx 28 n p h at_ (wl w)))) =
    fun n p h at_ w => some (sr6 28 n p (mixW2 h w) (IntKind.i64.wrap (at_ + 64))) := by kernel_rfl
theorem schedS (s : Nat) (hs : s = 26 ∨ s = 28) (n : Nat) (p : List V) (h : W8) (at_ : Int) (w : Nat → Int) : evalCode C55 F15 (fst1 (rt 2 blockX)) (swx s n p h at_ (wsAt w 16)) = some (.normal, ssx s n p h at_ ((grow 48 ((List.range 16).map w)).map u32)) := by
  rcases hs with rfl | rfl
  · exact congrFun (congrFun (congrFun (congrFun (congrFun schedS26 n) p) h) at_) w
  · exact congrFun (congrFun (congrFun (congrFun (congrFun schedS28 n) p) h) at_) w
theorem mixS (s : Nat) (hs : s = 26 ∨ s = 28) (n : Nat) (p : List V) (h : W8) (at_ : Int) (w : Nat → Int) : endX (evalCode C55 F15 (rt 3 blockX) (ssx s n p h at_ (wl w))) = some (sr6 s n p (mixW2 h w) (IntKind.i64.wrap (at_ + 64))) := by
  rcases hs with rfl | rfl
  · exact congrFun (congrFun (congrFun (congrFun (congrFun mixS26 n) p) h) at_) w
  · exact congrFun (congrFun (congrFun (congrFun (congrFun mixS28 n) p) h) at_) w

theorem sched_wl (xs : List V) : (sched fun i => (xs.map numOf).getD i 0).map u32 = wl (schedAt xs) := by
  rw [list_range (xs := sched fun i => (xs.map numOf).getD i 0) (sched_len _) 0, List.map_map]
  rfl

set_option maxHeartbeats 4000000 in
theorem rbody6 (s : Nat) (hs : s = 26 ∨ s = 28) (n : Nat) (p : List V) (h : W8) (a : Nat) (hk : kinds .u8 p = true) (hl : a + 64 ≤ p.length) (hlim : p.length ≤ 3 * lim) :
    ∃ s', evalCode C55 F15 b18_6 (sr6 s n p h a) = some (.normal, s') ∧ clean [2, 3, 6, 7, 8] kr6 s' = sr6 s n p (mixW h (schedAt ((p.drop a).take 64))) ((a + 64 : Nat) : Int) := by
  have hb : decide ((a : Int) < p.length) = true := by simp; omega
  let xs := (p.drop a).take 64
  let B : Nat → Int := fun j => (xs.map numOf).getD j 0
  have hp : ∀ j, j < 64 → p[a + j]? = some (u8 (B j)) := fun j hj => by
    have h1 : xs[j]? = p[a + j]? := by simp [xs, List.getElem?_take, hj]
    have hlt : a + j < p.length := by omega
    have h2 : p[a + j]? = some p[a + j] := List.getElem?_eq_getElem hlt
    have hu : isU .u8 p[a + j] = true := by
      simp only [kinds, List.all_eq_true] at hk
      exact hk _ (List.getElem_mem hlt)
    have h3 : B j = numOf p[a + j] := by
      show (xs.map numOf).getD j 0 = _
      simp [List.getD_eq_getElem?_getD, h1, h2]
    rw [h2, h3]
    generalize p[a + j] = v at hu
    cases v <;> simp [isU] at hu
    simp [u8, numOf, hu]
  have hmix := mixS s hs n p h a (schedAt xs)
  have hcond : evalCode C55 F15 (fst1 b18_6) (sr6 s n p h a) = some (.normal, ⟨(58, .bool true) :: (57, .int .i64 p.length) :: (56, rowS s p) :: (55, .int .i64 a) :: (sr6 s n p h a).tm, (sr6 s n p h a).st⟩) := by
    rw [← hb]
    rcases hs with rfl | rfl
    · exact (ev_seq (ev_region (s1 := ⟨(58, .bool (decide ((a : Int) < p.length))) :: (57, .int .i64 p.length) :: (56, rowS 26 p) :: (55, .int .i64 a) :: (sr6 26 n p h a).tm, (sr6 26 n p h a).st⟩) rfl)).trans ((ev_true (by exact congrArg V.bool hb)).trans rfl)
    · exact (ev_seq (ev_region (s1 := ⟨(58, .bool (decide ((a : Int) < p.length))) :: (57, .int .i64 p.length) :: (56, rowS 28 p) :: (55, .int .i64 a) :: (sr6 28 n p h a).tm, (sr6 28 n p h a).st⟩) rfl)).trans ((ev_true (by exact congrArg V.bool hb)).trans rfl)
  have hwords : ∀ s1 : St, s1 = ⟨(58, .bool true) :: (57, .int .i64 p.length) :: (56, rowS s p) :: (55, .int .i64 a) :: (sr6 s n p h a).tm, (sr6 s n p h a).st⟩ →
      evalCode C55 F15 blockX s1 = evalCode C55 F15 (rt 2 blockX) (swx s n p h a (wsAt (word B) 16)) := fun s1 hs1 => by
    subst hs1
    have hstep : ∀ i, i < 16 → ∃ s', evalCode C55 F15 b18_2 (sw s n p h a (wsAt (word B) i) i) = some (.normal, s') ∧ clean [2, 3, 6, 7, 8, 9, 10] krw s' = sw s n p h a (wsAt (word B) (i + 1)) ((i + 1 : Nat) : Int) :=
      fun i hi => wbody s hs n p h a B i hi (by omega) hp
    have hend : evalCode C55 F15 b18_2 (sw s n p h a (wsAt (word B) 16) (16 : Nat)) = some (.exit 6, swx s n p h a (wsAt (word B) 16)) := by
      rcases hs with rfl | rfl <;> rfl
    rcases hs with rfl | rfl
    · exact (ev_seq (ev_region rfl)).trans (ev_seq ((ev_seq (ev_region rfl)).trans (ev_block (ev_loop (fun i => sw 26 n p h a (wsAt (word B) i) i) 16 rfl hstep hend (by simp) (by unfold F15; omega)))))
    · exact (ev_seq (ev_region rfl)).trans (ev_seq ((ev_seq (ev_region rfl)).trans (ev_block (ev_loop (fun i => sw 28 n p h a (wsAt (word B) i) i) 16 rfl hstep hend (by simp) (by unfold F15; omega)))))
  have hsch : evalCode C55 F15 (rt 2 blockX) (swx s n p h a (wsAt (word B) 16)) = evalCode C55 F15 (rt 3 blockX) (ssx s n p h a (wl (schedAt xs))) := by
    refine (ev_seq (schedS s hs n p h a (word B))).trans ?_
    rw [show (grow 48 ((List.range 16).map (word B))).map u32 = wl (schedAt xs) from sched_wl xs]
    rfl
  have hX := (hwords _ rfl).trans hsch
  rw [← hX] at hmix
  unfold endX at hmix
  split at hmix <;> first | (cases hmix; done) | skip
  rename_i s5 h5
  split at hmix <;> first | (cases hmix; done) | skip
  rename_i s6 h6
  refine ⟨s6, (ev_seq hcond).trans ((ev_seq (ev_block_normal h5)).trans h6), ?_⟩
  have := Option.some.inj hmix
  rw [this, mixW2_eq, wrap_i64 _ (by omega) (by unfold lim at hlim; omega)]
  rfl
theorem rexit6 (s : Nat) (hs : s = 26 ∨ s = 28) (n : Nat) (p : List V) (h : W8) :
    evalCode C55 F15 b18_6 (sr6 s n p h p.length) = some (.exit 4, ⟨(58, .bool false) :: (57, .int .i64 p.length) :: (56, rowS s p) :: (55, .int .i64 p.length) :: (sr6 s n p h p.length).tm, (sr6 s n p h p.length).st⟩) := by
  have hb : decide ((p.length : Int) < p.length) = false := by simp
  rw [← hb]
  rcases hs with rfl | rfl
  · exact ev_seq_out ((ev_seq (ev_region (s1 := ⟨(58, .bool (decide ((p.length : Int) < p.length))) :: (57, .int .i64 p.length) :: (56, rowS 26 p) :: (55, .int .i64 p.length) :: (sr6 26 n p h p.length).tm, (sr6 26 n p h p.length).st⟩) rfl)).trans ((ev_false (by exact congrArg V.bool hb)).trans rfl)) (by simp)
  · exact ev_seq_out ((ev_seq (ev_region (s1 := ⟨(58, .bool (decide ((p.length : Int) < p.length))) :: (57, .int .i64 p.length) :: (56, rowS 28 p) :: (55, .int .i64 p.length) :: (sr6 28 n p h p.length).tm, (sr6 28 n p h p.length).st⟩) rfl)).trans ((ev_false (by exact congrArg V.bool hb)).trans rfl)) (by simp)
end Go.Proofs.YtiiohfojejfolaaDoor
