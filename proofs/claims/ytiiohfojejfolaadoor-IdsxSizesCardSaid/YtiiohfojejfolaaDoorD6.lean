/-
  What is proved: what the document's Sum computes, for any bytes that are not too many: the same as shas.Sum. Its blocks.
  Conditions: none.
-/
import Derived.Test.YtiiohfojejfolaaDoorD5
set_option linter.unusedVariables false
set_option linter.unusedSimpArgs false
namespace Go.Proofs.YtiiohfojejfolaaDoor
open Go Go.Ev Go.Proofs

theorem step_indexS {C : FuncId → Option Contract} {s : St} {d a b e m : Nat} {xs : List V} {own : Own} {kk : IntKind} {n : Int} {v : V} (hs : s.tm.at a = .slc e xs own) (hi : s.tm.at b = .int kk n) (hn : n = (m : Int)) (hx : xs[m]? = some v) :
    Go.Ev.step C s ⟨some d, .indexS e (.t a) (.t b), none⟩ = some (⟨(d, .elem v.cellsOf) :: s.tm, s.st⟩, [], []) := by
  have : (act C d (AOpd.ev s.tm) (.indexS e (.t a) (.t b))).run s.st [] = some (⟨.elem v.cellsOf, []⟩, []) := by
    subst hn
    have h0 : (0 : Int) ≤ m := by omega
    simp only [act, AOpd.ev, hs, hi, h0, and_self, if_true, Int.toNat_natCast, hx, Act.just, Act.run]
  exact step_of this

/-! ### the words of a block -/
def krw : List Nat := [2, 24, 26, 27, 28, 30, 34, 35, 37, 51, 52, 53, 6, 7, 57, 9, 118, 120, 132, 134, 15, 153, 155, 158, 181, 183, 186, 22]
def wsAt (w : Nat → Int) (i : Nat) : List V := ((List.range i).map w ++ List.replicate (64 - i) 0).map u32
def sw (s n : Nat) (p : List V) (h : W8) (at_ : Int) (ws : List V) (i : Int) : St :=
  ⟨[(2, pt 2), (3, rowS s p), (6, pt 6), (7, pt 7), (8, .int .i64 at_), (9, pt 9), (10, .int .i64 i)],
   [(.loc 2 0, .cells z32), (.loc s 0, .tok n), (.loc 6 0, .cells cubes), (.loc 7 0, .cells h.l), (.loc 9 0, .cells ws)]⟩
set_option maxHeartbeats 8000000 in
theorem wbody (s : Nat) (hs : s = 26 ∨ s = 28) (n : Nat) (p : List V) (h : W8) (a : Nat) (B : Nat → Int) (i : Nat) (hi : i < 16) (ha : a ≤ 4 * lim) (hp : ∀ j, j < 64 → p[a + j]? = some (u8 (B j))) :
    ∃ s', evalCode C55 F15 b18_2 (sw s n p h a (wsAt (word B) i) i) = some (.normal, s') ∧ clean [2, 3, 6, 7, 8, 9, 10] krw s' = sw s n p h a (wsAt (word B) (i + 1)) ((i + 1 : Nat) : Int) := by
  have w0 : ∀ k : Nat, k < 64 → IntKind.i64.wrap ((a : Int) + IntKind.i64.wrap (4 * (k : Int))) = ((a + 4 * k : Nat) : Int) := fun k hk => by
    unfold lim at ha
    rw [wrap_i64 (4 * (k : Int)) (by omega) (by omega), wrap_i64 _ (by omega) (by omega)]; omega
  have w1 : ∀ (k : Nat) (c : Nat), k < 16 → c < 4 → IntKind.i64.wrap (IntKind.i64.wrap ((a : Int) + IntKind.i64.wrap (4 * (k : Int))) + (c : Int)) = ((a + (4 * k + c) : Nat) : Int) := fun k c hk hc => by
    unfold lim at ha
    rw [w0 k (by omega), wrap_i64 _ (by omega) (by omega)]; omega
  have h0 : i = 0 ∨ i = 1 ∨ i = 2 ∨ i = 3 ∨ i = 4 ∨ i = 5 ∨ i = 6 ∨ i = 7 ∨ i = 8 ∨ i = 9 ∨ i = 10 ∨ i = 11 ∨ i = 12 ∨ i = 13 ∨ i = 14 ∨ i = 15 := by omega
  rcases hs with rfl | rfl
  all_goals rcases h0 with rfl | rfl | rfl | rfl | rfl | rfl | rfl | rfl | rfl | rfl | rfl | rfl | rfl | rfl | rfl | rfl
  all_goals
    refine ⟨_, (ev_seq rfl).trans ((ev_seq (ev_block_normal ((ev_seq (ev_region rfl)).trans (ev_drawn ((log_cons rfl).trans ((log_cons rfl).trans ((log_cons rfl).trans
      ((log_cons (step_indexS (xs := p) rfl rfl (w0 _ (by decide)) (hp (4 * _) (by decide)))).trans ((log_cons rfl).trans ((log_cons rfl).trans ((log_cons rfl).trans ((log_cons rfl).trans ((log_cons rfl).trans ((log_cons rfl).trans
      ((log_cons (step_indexS (xs := p) rfl rfl (w1 _ 1 (by decide) (by decide)) (hp (4 * _ + 1) (by decide)))).trans ((log_cons rfl).trans ((log_cons rfl).trans ((log_cons rfl).trans ((log_cons rfl).trans ((log_cons rfl).trans ((log_cons rfl).trans ((log_cons rfl).trans
      ((log_cons (step_indexS (xs := p) rfl rfl (w1 _ 2 (by decide) (by decide)) (hp (4 * _ + 2) (by decide)))).trans ((log_cons rfl).trans ((log_cons rfl).trans ((log_cons rfl).trans ((log_cons rfl).trans ((log_cons rfl).trans ((log_cons rfl).trans ((log_cons rfl).trans
      ((log_cons (step_indexS (xs := p) rfl rfl (w1 _ 3 (by decide) (by decide)) (hp (4 * _ + 3) (by decide)))).trans ((log_cons rfl).trans ((log_cons rfl).trans ((log_cons rfl).trans ((log_cons rfl).trans ((log_cons rfl).trans rfl)))))))))))))))))))))))))))))))) (by kernel_rfl))))).trans
      (ev_region ((ops_cons rfl).trans ((ops_cons rfl).trans ((ops_cons rfl).trans ops_nil))))), ?_⟩
    kernel_rfl
end Go.Proofs.YtiiohfojejfolaaDoor
