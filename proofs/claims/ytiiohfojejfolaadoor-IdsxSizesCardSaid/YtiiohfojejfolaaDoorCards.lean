/-
  DERIVED. GIVEN WITH THE SEED: THE CARDS: each row of YtiiohfojejfolaaDoorRows.lean that lists a variable, with what it lists TIED to the program's text (the seventh form; the later family's looks); each row that meets fmt, with fmt's text TOLD by the authors' own Lean function (tested against real Go, not proved from fmt's source: count such statements apart). THE CARD IS WHAT COUNTS. Prove the row's statement (the work); the ties are given (YtiiohfojejfolaaDoorTie.lean); close each card by the builder's one call (the guide's Derived/Test/ToyasCard.lean, 'card_holds'). Laid BY PROGRAM, IN A SANDBOX (cutbox-door.mjs). By AI agents, Wed Nov 11 2026. No macro, syntax, notation, axiom, sorry.
-/
import Derived.Test.YtiiohfojejfolaaDoorRows
import GoSem.ClaimSeven
namespace Go.Proofs.YtiiohfojejfolaaDoor
namespace Rows

/-- THE TIED CARD OF 'lighteragelaw0.NamesNumbers'. -/
def namesNumbersCard : Claim7 := { stood := { row := namesNumbersRow, standIns := [], harness := (true, "5bbd5e7aa0d2a58f4cf1dd0e02c1485ff22e8ffd37f28b3ddfa4f5b498c21093"), looks := false }, kinds := [], alts := [], laidByText := true, laidKinds := [.data, .data], laidTests := true, laidLooks := .later }
def NamesNumbersCardSaid : Prop := Claim7.holds Tryd.pinned (.plain (OpenSpec.ofChange namesNumbersSpec)) namesNumbersCard

/-- THE TIED CARD OF 'lighteragelaw1.ShasOrder'. -/
def shasOrderCard : Claim7 := { stood := { row := shasOrderRow, standIns := [], harness := (true, "5bbd5e7aa0d2a58f4cf1dd0e02c1485ff22e8ffd37f28b3ddfa4f5b498c21093"), looks := false }, kinds := [], alts := [], laidByText := true, laidKinds := [.data, .data], laidTests := true, laidLooks := .later }
def ShasOrderCardSaid : Prop := Claim7.holds Tryd.pinned (.plain (OpenSpec.ofChange shasOrderSpec)) shasOrderCard

/-- THE TIED CARD OF 'lighteragelaw1.ShasBlocks'. -/
def shasBlocksCard : Claim7 := { stood := { row := shasBlocksRow, standIns := [], harness := (true, "5bbd5e7aa0d2a58f4cf1dd0e02c1485ff22e8ffd37f28b3ddfa4f5b498c21093"), looks := false }, kinds := [], alts := [], laidByText := true, laidKinds := [.data, .data], laidTests := true, laidLooks := .later }
def ShasBlocksCardSaid : Prop := Claim7.holds Tryd.pinned (.plain (OpenSpec.ofChange shasBlocksSpec)) shasBlocksCard

/-- THE TIED CARD OF 'lighteragelaw1.ShasTells'. -/
def shasTellsCard : Claim7 := { stood := { row := shasTellsRow, standIns := [], harness := (true, "5bbd5e7aa0d2a58f4cf1dd0e02c1485ff22e8ffd37f28b3ddfa4f5b498c21093"), looks := false }, kinds := [], alts := [], laidByText := true, laidKinds := [.data, .data], laidTests := true, laidLooks := .later }
def ShasTellsCardSaid : Prop := Claim7.holds Tryd.pinned (.plain (OpenSpec.ofChange shasTellsSpec)) shasTellsCard

/-- THE TIED CARD OF 'lighteragelaw1.ShasForms'. -/
def shasFormsCard : Claim7 := { stood := { row := shasFormsRow, standIns := [], harness := (true, "5bbd5e7aa0d2a58f4cf1dd0e02c1485ff22e8ffd37f28b3ddfa4f5b498c21093"), looks := false }, kinds := [], alts := [], laidByText := true, laidKinds := [.data, .data], laidTests := true, laidLooks := .later }
def ShasFormsCardSaid : Prop := Claim7.holds Tryd.pinned (.plain (OpenSpec.ofChange shasFormsSpec)) shasFormsCard

/-- THE TIED CARD OF 'lighteragelaw1.ShasOnce'. -/
def shasOnceCard : Claim7 := { stood := { row := shasOnceRow, standIns := [], harness := (true, "5bbd5e7aa0d2a58f4cf1dd0e02c1485ff22e8ffd37f28b3ddfa4f5b498c21093"), looks := false }, kinds := [], alts := [], laidByText := true, laidKinds := [.data, .data], laidTests := true, laidLooks := .later }
def ShasOnceCardSaid : Prop := Claim7.holds Tryd.pinned (.plain (OpenSpec.ofChange shasOnceSpec)) shasOnceCard

/-- THE TIED CARD OF 'lighteragelaw4.IdsxSizes'. -/
def idsxSizesCard : Claim7 := { stood := { row := idsxSizesRow, standIns := [], harness := (true, "5bbd5e7aa0d2a58f4cf1dd0e02c1485ff22e8ffd37f28b3ddfa4f5b498c21093"), looks := false }, kinds := [], alts := [], laidByText := true, laidKinds := [.data, .data], laidTests := true, laidLooks := .later }
def IdsxSizesCardSaid : Prop := Claim7.holds Tryd.pinned (.plain (OpenSpec.ofChange idsxSizesSpec)) idsxSizesCard

/-- THE TIED CARD OF 'lighteragelaw11.BlocTells'. -/
def blocTellsCard : Claim7 := { stood := { row := blocTellsRow, standIns := [], harness := (true, "5bbd5e7aa0d2a58f4cf1dd0e02c1485ff22e8ffd37f28b3ddfa4f5b498c21093"), looks := false }, kinds := [], alts := [], laidByText := true, laidKinds := [.data, .data], laidTests := true, laidLooks := .later }
def BlocTellsCardSaid : Prop := Claim7.holds Tryd.pinned (.plain (OpenSpec.ofChange blocTellsSpec)) blocTellsCard

/-- THE TIED CARD OF 'lighteragelaw13.PoolNames'. -/
def poolNamesCard : Claim7 := { stood := { row := poolNamesRow, standIns := [], harness := (true, "5bbd5e7aa0d2a58f4cf1dd0e02c1485ff22e8ffd37f28b3ddfa4f5b498c21093"), looks := false }, kinds := [], alts := [], laidByText := true, laidKinds := [.data, .data], laidTests := true, laidLooks := .later }
def PoolNamesCardSaid : Prop := Claim7.holds Tryd.pinned (.plain (OpenSpec.ofChange poolNamesSpec)) poolNamesCard

/-- THE TIED CARD OF 'lighteragelaw13.PoolTotal'. -/
def poolTotalCard : Claim7 := { stood := { row := poolTotalRow, standIns := [], harness := (true, "5bbd5e7aa0d2a58f4cf1dd0e02c1485ff22e8ffd37f28b3ddfa4f5b498c21093"), looks := false }, kinds := [], alts := [], laidByText := true, laidKinds := [.data, .data], laidTests := true, laidLooks := .later }
def PoolTotalCardSaid : Prop := Claim7.holds Tryd.pinned (.plain (OpenSpec.ofChange poolTotalSpec)) poolTotalCard

/-- THE TIED CARD OF 'lighteragelaw13.PoolOwn'. -/
def poolOwnCard : Claim7 := { stood := { row := poolOwnRow, standIns := [], harness := (true, "5bbd5e7aa0d2a58f4cf1dd0e02c1485ff22e8ffd37f28b3ddfa4f5b498c21093"), looks := false }, kinds := [], alts := [], laidByText := true, laidKinds := [.data, .data], laidTests := true, laidLooks := .later }
def PoolOwnCardSaid : Prop := Claim7.holds Tryd.pinned (.plain (OpenSpec.ofChange poolOwnSpec)) poolOwnCard

/-- THE SECOND FORM's CARD OF 'lighteragelaw0.NamesNumbers'. -/
def namesNumbersUptoCard : Claim7 := { stood := { row := namesNumbersUptoRow, standIns := [], harness := (true, "5bbd5e7aa0d2a58f4cf1dd0e02c1485ff22e8ffd37f28b3ddfa4f5b498c21093"), looks := false }, kinds := [], alts := [], laidByText := true, laidKinds := [.data, .data], laidTests := true, laidLooks := .later }
def NamesNumbersUptoCardSaid : Prop := Claim7.holds Tryd.pinned (.plain (OpenSpec.upto namesNumbersSpec)) namesNumbersUptoCard

/-- THE SECOND FORM's CARD OF 'lighteragelaw1.ShasOrder'. -/
def shasOrderUptoCard : Claim7 := { stood := { row := shasOrderUptoRow, standIns := [], harness := (true, "5bbd5e7aa0d2a58f4cf1dd0e02c1485ff22e8ffd37f28b3ddfa4f5b498c21093"), looks := false }, kinds := [], alts := [], laidByText := true, laidKinds := [.data, .data], laidTests := true, laidLooks := .later }
def ShasOrderUptoCardSaid : Prop := Claim7.holds Tryd.pinned (.plain (OpenSpec.upto shasOrderSpec)) shasOrderUptoCard

/-- THE SECOND FORM's CARD OF 'lighteragelaw1.ShasBlocks'. -/
def shasBlocksUptoCard : Claim7 := { stood := { row := shasBlocksUptoRow, standIns := [], harness := (true, "5bbd5e7aa0d2a58f4cf1dd0e02c1485ff22e8ffd37f28b3ddfa4f5b498c21093"), looks := false }, kinds := [], alts := [], laidByText := true, laidKinds := [.data, .data], laidTests := true, laidLooks := .later }
def ShasBlocksUptoCardSaid : Prop := Claim7.holds Tryd.pinned (.plain (OpenSpec.upto shasBlocksSpec)) shasBlocksUptoCard

/-- THE SECOND FORM's CARD OF 'lighteragelaw1.ShasTells'. -/
def shasTellsUptoCard : Claim7 := { stood := { row := shasTellsUptoRow, standIns := [], harness := (true, "5bbd5e7aa0d2a58f4cf1dd0e02c1485ff22e8ffd37f28b3ddfa4f5b498c21093"), looks := false }, kinds := [], alts := [], laidByText := true, laidKinds := [.data, .data], laidTests := true, laidLooks := .later }
def ShasTellsUptoCardSaid : Prop := Claim7.holds Tryd.pinned (.plain (OpenSpec.upto shasTellsSpec)) shasTellsUptoCard

/-- THE SECOND FORM's CARD OF 'lighteragelaw1.ShasForms'. -/
def shasFormsUptoCard : Claim7 := { stood := { row := shasFormsUptoRow, standIns := [], harness := (true, "5bbd5e7aa0d2a58f4cf1dd0e02c1485ff22e8ffd37f28b3ddfa4f5b498c21093"), looks := false }, kinds := [], alts := [], laidByText := true, laidKinds := [.data, .data], laidTests := true, laidLooks := .later }
def ShasFormsUptoCardSaid : Prop := Claim7.holds Tryd.pinned (.plain (OpenSpec.upto shasFormsSpec)) shasFormsUptoCard

/-- THE SECOND FORM's CARD OF 'lighteragelaw1.ShasOnce'. -/
def shasOnceUptoCard : Claim7 := { stood := { row := shasOnceUptoRow, standIns := [], harness := (true, "5bbd5e7aa0d2a58f4cf1dd0e02c1485ff22e8ffd37f28b3ddfa4f5b498c21093"), looks := false }, kinds := [], alts := [], laidByText := true, laidKinds := [.data, .data], laidTests := true, laidLooks := .later }
def ShasOnceUptoCardSaid : Prop := Claim7.holds Tryd.pinned (.plain (OpenSpec.upto shasOnceSpec)) shasOnceUptoCard

/-- THE SECOND FORM's CARD OF 'lighteragelaw4.IdsxSizes'. -/
def idsxSizesUptoCard : Claim7 := { stood := { row := idsxSizesUptoRow, standIns := [], harness := (true, "5bbd5e7aa0d2a58f4cf1dd0e02c1485ff22e8ffd37f28b3ddfa4f5b498c21093"), looks := false }, kinds := [], alts := [], laidByText := true, laidKinds := [.data, .data], laidTests := true, laidLooks := .later }
def IdsxSizesUptoCardSaid : Prop := Claim7.holds Tryd.pinned (.plain (OpenSpec.upto idsxSizesSpec)) idsxSizesUptoCard

/-- THE SECOND FORM's CARD OF 'lighteragelaw11.BlocTells'. -/
def blocTellsUptoCard : Claim7 := { stood := { row := blocTellsUptoRow, standIns := [], harness := (true, "5bbd5e7aa0d2a58f4cf1dd0e02c1485ff22e8ffd37f28b3ddfa4f5b498c21093"), looks := false }, kinds := [], alts := [], laidByText := true, laidKinds := [.data, .data], laidTests := true, laidLooks := .later }
def BlocTellsUptoCardSaid : Prop := Claim7.holds Tryd.pinned (.plain (OpenSpec.upto blocTellsSpec)) blocTellsUptoCard

/-- THE SECOND FORM's CARD OF 'lighteragelaw13.PoolNames'. -/
def poolNamesUptoCard : Claim7 := { stood := { row := poolNamesUptoRow, standIns := [], harness := (true, "5bbd5e7aa0d2a58f4cf1dd0e02c1485ff22e8ffd37f28b3ddfa4f5b498c21093"), looks := false }, kinds := [], alts := [], laidByText := true, laidKinds := [.data, .data], laidTests := true, laidLooks := .later }
def PoolNamesUptoCardSaid : Prop := Claim7.holds Tryd.pinned (.plain (OpenSpec.upto poolNamesSpec)) poolNamesUptoCard

/-- THE SECOND FORM's CARD OF 'lighteragelaw13.PoolTotal'. -/
def poolTotalUptoCard : Claim7 := { stood := { row := poolTotalUptoRow, standIns := [], harness := (true, "5bbd5e7aa0d2a58f4cf1dd0e02c1485ff22e8ffd37f28b3ddfa4f5b498c21093"), looks := false }, kinds := [], alts := [], laidByText := true, laidKinds := [.data, .data], laidTests := true, laidLooks := .later }
def PoolTotalUptoCardSaid : Prop := Claim7.holds Tryd.pinned (.plain (OpenSpec.upto poolTotalSpec)) poolTotalUptoCard

/-- THE SECOND FORM's CARD OF 'lighteragelaw13.PoolOwn'. -/
def poolOwnUptoCard : Claim7 := { stood := { row := poolOwnUptoRow, standIns := [], harness := (true, "5bbd5e7aa0d2a58f4cf1dd0e02c1485ff22e8ffd37f28b3ddfa4f5b498c21093"), looks := false }, kinds := [], alts := [], laidByText := true, laidKinds := [.data, .data], laidTests := true, laidLooks := .later }
def PoolOwnUptoCardSaid : Prop := Claim7.holds Tryd.pinned (.plain (OpenSpec.upto poolOwnSpec)) poolOwnUptoCard
end Rows
end Go.Proofs.YtiiohfojejfolaaDoor
