/-
  What is proved: what shas.Sum computes, for any bytes that are not too many: a function of the bytes, by blocks.
  Conditions: none.
-/
import Derived.Test.YtiiohfojejfolaaDoorD2
import Derived.Test.YtiiohfojejfolaaDoorEvG
set_option linter.unusedVariables false
set_option linter.unusedSimpArgs false
namespace Go.Proofs.YtiiohfojejfolaaDoor
open Go Go.Ev Go.Proofs

/-! ### Clone, Clip -/
def lim : Nat := 4294967296
def c52 : Contract := fun args objs =>
  match args, objs with
  | [.slc 1 xs .none], [] => if xs.length ≤ lim then some (.slc 1 xs .none, [], []) else none
  | _, _ => none
theorem r52 {x : V} {r : List V} (h : (x :: r).length ≤ lim) : AFn.run 2 noC a52 [.slc 1 (x :: r) .none] [] = some (.slc 1 (x :: r) .none, [], []) := by
  have e : evalCode noC 2 a52.code ⟨argTm 0 [.slc 1 (x :: r) .none], argObjs 0 []⟩ = some (.ret, ⟨[(2, .slc 1 (x :: r) (.tok (.loc 7 0) 0)), (7, .slc 1 (x :: r) (.tok (.loc 7 0) 0)), (6, .slc 1 (x :: r) .none), (5, .slc 1 [] .tight), (4, .bool false), (3, .slc 1 (x :: r) .none), (2, .slc 1 [] .tight), (0, .slc 1 (x :: r) .none)],
      [(.loc 7 0, .tok (x :: r).length)]⟩) := by
    refine (ev_seq (s1 := ⟨[(2, .slc 1 [] .tight), (0, .slc 1 (x :: r) .none)], []⟩) rfl).trans ?_
    refine (ev_seq (s1 := ⟨[(4, .bool false), (3, .slc 1 (x :: r) .none), (2, .slc 1 [] .tight), (0, .slc 1 (x :: r) .none)], []⟩) rfl).trans ?_
    refine (ev_seq (ev_region ((ops_cons rfl).trans ((ops_cons rfl).trans ((ops_cons (step_append_tight (xs := []) (ys := x :: r) rfl rfl rfl ?_ ?_ rfl)).trans (ops_cons rfl)))))).trans ?_
    · unfold lim at h; simp only [List.length_nil]; omega
    · unfold lim at h; simp only [List.length_nil]; omega
    · simp only [List.length_nil, Nat.zero_add]
      rfl
  unfold AFn.run
  rw [e]
  rfl
theorem h52' : Holds Tryd.prog G 52 c52 := by
  have hr := fn_holds (sound_noC (P := Tryd.prog) (G := G)) hM 2 Tryd.func52 p52 o52
  intro args objs r os ns h
  unfold c52 at h
  split at h
  · rename_i xs
    split at h
    · rename_i hx
      cases h
      cases xs with
      | cons x rest => exact hr _ _ _ _ _ (r52 hx)
      | nil =>
        intro hl F μ w us hG hI hrel
        simp only [rels] at hrel
        obtain ⟨u, us', rfl, hu, rfl⟩ := hrel
        have hu0 := hu
        simp only [rel] at hu
        obtain ⟨base, cap, rfl, hb, ho⟩ := hu
        cases base with
        | none =>
          obtain ⟨_, rfl⟩ := hb
          exact hr [.nilslc] [] (.slc 1 [] .none) [] [] (by kernel_rfl) rfl F μ w _ hG hI ⟨_, _, rfl, by simp [rel], rfl⟩
        | some a =>
          refine hr [.slc 1 [] .nn] [] (.slc 1 [] .none) [] [] (by kernel_rfl) rfl F μ w _ hG hI ⟨_, _, rfl, ?_, rfl⟩
          simp only [rel]
          exact ⟨some a, cap, rfl, hb, ho, rfl⟩
    · cases h
  · cases h
def c51 : Contract := fun args objs =>
  match args, objs with
  | [.slc 1 xs .none], [] => some (.slc 1 xs .tight, [], [])
  | _, _ => none
theorem h51' : Holds Tryd.prog G 51 c51 := (fn_holds (sound_noC (P := Tryd.prog) (G := G)) hM 2 Tryd.func51 p51 o51).less fun args objs x h => by
  unfold c51 at h
  split at h
  · rename_i xs
    cases h
    have hc : cut xs.length none (some (.int .i64 xs.length)) (some (.int .i64 xs.length)) = some (0, xs.length, some xs.length) := by
      simp [cut, intArg, cutAt]
    have hs : ∀ tm : Tm, tm.at 3 = .slc 1 xs .none → tm.at 5 = .int .i64 xs.length → tm.at 7 = .int .i64 xs.length →
        Go.Ev.step noC ⟨tm, []⟩ ⟨some 8, .sliceS 1 (.t 3) none (some (.t 5)) (some (.t 7)), none⟩ = some (⟨(8, .slc 1 xs .tight) :: tm, []⟩, [], []) := fun tm h1 h2 h3 => by
      refine step_of (an := ⟨.slc 1 xs .tight, []⟩) ?_
      simp only [act, AOpd.ev, Option.map_none, Option.map_some, h1, h2, h3, hc, ne_eq, not_true_eq_false, if_false, if_true, Act.just, Act.run, List.drop_zero, Nat.sub_zero, List.take_length]
    have e : evalCode noC 2 a51.code ⟨argTm 0 [.slc 1 xs .none], argObjs 0 []⟩ = some (.ret, ⟨[(2, .slc 1 xs .tight), (8, .slc 1 xs .tight), (7, .int .i64 xs.length), (6, .slc 1 xs .none), (5, .int .i64 xs.length), (4, .slc 1 xs .none), (3, .slc 1 xs .none), (2, .slc 1 [] .tight), (0, .slc 1 xs .none)], []⟩) := by
      refine (ev_seq (s1 := ⟨[(2, .slc 1 [] .tight), (0, .slc 1 xs .none)], []⟩) rfl).trans ?_
      exact (ev_seq (ev_region ((ops_cons rfl).trans ((ops_cons rfl).trans ((ops_cons rfl).trans ((ops_cons rfl).trans ((ops_cons rfl).trans ((ops_cons (hs _ rfl rfl rfl)).trans (ops_cons rfl))))))))).trans rfl
    unfold AFn.run
    rw [e]
    rfl
  · cases h
def C51 : FuncId → Option Contract := addC (addC C53 52 c52) 51 c51
theorem s51 : Sound Tryd.prog G C51 := (s53.add Tryd.func52 (by kernel_rfl) h52').add Tryd.func51 (by kernel_rfl) h51'
end Go.Proofs.YtiiohfojejfolaaDoor
