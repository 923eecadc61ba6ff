/-
  What is proved: what a row's list of tables gives (the two tables of shas, as they lie), and a world for the witnesses.
  Conditions: none.
-/
import Derived.Test.YtiiohfojejfolaaDoorCards
import Derived.Test.YtiiohfojejfolaaDoorTie
import Derived.Test.YtiiohfojejfolaaDoorD4
import Derived.WalkKit
import Derived.ProofKit
import Derived.OpenShut
import Derived.Deep.DeepHandedRow
import Derived.Lib.LaidTab
set_option linter.unusedVariables false
set_option linter.unusedSimpArgs false
namespace Go.Proofs.YtiiohfojejfolaaDoor
open Go Go.Ev Go.Proofs Go.ChangeShapes Go.WideShapes Go.ChangeAt Go.RowKit

theorem own : ownKnob Tryd.prog.godebug = none := by kernel_rfl
theorem gSquares : Tryd.prog.globalNamed "lighterage/shas.squares" = some 0 := by kernel_rfl
theorem gCubes : Tryd.prog.globalNamed "lighterage/shas.cubes" = some 1 := by kernel_rfl
theorem gSquaresType : (Tryd.prog.globals[0]?).map (·.type) = some 94 := by kernel_rfl
theorem gCubesType : (Tryd.prog.globals[1]?).map (·.type) = some 97 := by kernel_rfl
theorem u94 : Tryd.prog.underlying 94 = some (.array 8 35) := by kernel_rfl
theorem u97 : Tryd.prog.underlying 97 = some (.array 64 35) := by kernel_rfl
theorem u35 : Tryd.prog.underlying 35 = some (.int .u32) := by kernel_rfl
theorem u4 : Tryd.prog.underlying 4 = some .bool := by kernel_rfl
theorem cells35 : Tryd.prog.cellsOf 35 = 1 := by kernel_rfl
theorem cells94 : Tryd.prog.cellsOf 94 = 8 := by kernel_rfl
theorem cells97 : Tryd.prog.cellsOf 97 = 64 := by kernel_rfl
theorem laidOut : laidOutB Tryd.prog = true := by kernel_rfl

theorem laidMet_tail {P : Program} {x : String × DataW Unit} {r : List (String × DataW Unit)} {W : World} (h : laidMet P (x :: r) W) : laidMet P r W := by
  obtain ⟨n, d⟩ := x
  obtain ⟨ps, ⟨g', t', cs, fuel, p, q, hg', ht', hvar, hd, hs, he⟩, hn, hr⟩ := h
  subst he
  exact ⟨q, hs, (List.nodup_append.1 hn).2.1, fun b off hm => hr b off (List.mem_append.2 (.inr hm))⟩

def laidList : List (String × DataW Unit) := [("lighterage/shas.cubes", Rows.laid_lighterage_shas_cubes), ("lighterage/shas.squares", Rows.laid_lighterage_shas_squares)]
theorem laid_eq : laidList = [("lighterage/shas.cubes", Lib.tabData .u32 cubesI), ("lighterage/shas.squares", Lib.tabData .u32 squaresI)] := by kernel_rfl

theorem G_get {g : Nat} {cs : List V} (h : G.get g = some cs) : (g = 0 ∧ cs = squares) ∨ (g = 1 ∧ cs = cubes) := by
  unfold G at h
  simp only [Globals.get] at h
  split at h
  · cases h; rename_i hg; exact .inl ⟨hg.symm, rfl⟩
  · split at h
    · cases h; rename_i hg; exact .inr ⟨hg.symm, rfl⟩
    · cases h

/-- WHAT THE ROW's LIST GIVES: the tables lie as they are. -/
theorem tables {W : World} (h : laidMet Tryd.prog laidList W) : ∀ g cs, G.get g = some cs → frz (allF W) g 0 cs := by
  rw [laid_eq] at h
  have hc : Lib.TabIs Tryd.prog W "lighterage/shas.cubes" .u32 cubesI := Lib.tabIs_of_head gCubes gCubesType u97 u35 cells35 cells97 h
  have hs : Lib.TabIs Tryd.prog W "lighterage/shas.squares" .u32 squaresI := Lib.tabIs_of_head gSquares gSquaresType u94 u35 cells35 cells94 (laidMet_tail h)
  intro g cs hg
  have key : ∀ {l : List Int} {name : String} {g : Nat}, Lib.TabIs Tryd.prog W name .u32 l → Tryd.prog.globalNamed name = some g → frz (allF W) g 0 (ints .u32 l) := fun {l name g} ht hn =>
    frz_ints fun i n hi => by
      have hlt : i < l.length := (List.getElem?_eq_some_iff.1 hi).1
      have := ht.cell hn i hlt
      rw [Nat.zero_add, this]
      congr 2
      simp [List.getD_eq_getElem?_getD, hi]
  rcases G_get hg with ⟨rfl, rfl⟩ | ⟨rfl, rfl⟩
  · exact key hs gSquares
  · exact key hc gCubes

/-- A WORLD FOR THE WITNESS: the settled one, the tables as their initialisers lay them. -/
def layInts (l : List Int) : Go.Obj → Go.Obj
  | .cells _ t frozen => .cells (l.map fun n => Value.int .u32 n).toArray t frozen
  | o => o
noncomputable def laidWorld (os : Os) : World :=
  { World.holding Tryd.prog os ⟨#[], #[], []⟩ with heap := ((World.holding Tryd.prog os ⟨#[], #[], []⟩).heap.modify 0 (layInts squaresI)).modify 1 (layInts cubesI) }
theorem laidWorld_met (os : Os) : laidMet Tryd.prog laidList ((laidWorld os).forCall (fun _ _ => 0) ⟨#[], #[], []⟩).memory :=
  laidMet_of_run' 8 (by kernel_rfl) (by kernel_rfl)
end Go.Proofs.YtiiohfojejfolaaDoor
