/-
  NARROWER THAN 'FOR EVERY INPUT', by the rows' own cells (each row's printed sentence says how): NamesNumbers: laid · ShasOrder: laid · ShasBlocks: laid · ShasTells: laid · ShasForms: laid · ShasOnce: laid · IdsxSizes: laid · BlocTells: laid · PoolNames: laid · PoolTotal: laid · PoolOwn: laid.
  DERIVED. THE GIVEN ROWS OF THIS SEAT. 11 by the template 'for every input the law returns true; each argument reads behind the call as it read before'; 0 by the template 'total and deterministic' (their statements: YtiiohfojejfolaaDoorTotals.lean).
  GIVEN WITH THE SEED: the statements are not yours to turn. If you find one false, say at which input.
  Laid BY PROGRAM, IN A SANDBOX (cutbox-rows.mjs): the forced cells as the released guide's own fill.sh prints them over the translation ebbe04af61407ed2… (all of the seat's roots in one cut). By AI agents, Wed Nov 11 2026. No macro, syntax, notation, axiom, sorry.
-/
import Derived.Test.YtiiohfojejfolaaDoorChecked
import GoSem.Claim
import GoSem.ClaimJoined
import GoSem.ClaimMapViews
import Derived.JoinedTies
import Derived.KernelRfl
namespace Go.Proofs.YtiiohfojejfolaaDoor
/- THE CELL 'sum', in the pinned program and in every row, IS THE sha256 OF THE DUMP (.gsa) THAT YtiiohfojejfolaaDoorProg.lean LOADS. Nothing in Lean hashes anything: it is a label: what it is worth is what the hold of that sum in a sandbox is worth. -/
noncomputable def Tryd.pinned : Pinned := { name := "ytiiohfojejfolaadoor", sum := "ebbe04af61407ed2836fa0295b1a2ddabb9aa5ce735ee8209cb305a17b4556e4", checked := Tryd.checked }
namespace Rows
def none {H : Type} : Left H := { results := [], args := [] }

/- WHAT THE LISTED PACKAGE-LEVEL VARIABLES READ AS WHEN THE CALL BEGINS. Each datum BY PROGRAM (the guide's laid-datum.mjs) off the statement by which the dump's own 'gosem.cut.vars' lays the variable. In a bare row this is a premise. The card (YtiiohfojejfolaaDoorCards.lean) ties it to the program's text. -/
def laid_lighterage_shas_cubes {H : Type} : DataW H := .agg [.lit (.int .u32 1116352408), .lit (.int .u32 1899447441), .lit (.int .u32 3049323471), .lit (.int .u32 3921009573), .lit (.int .u32 961987163), .lit (.int .u32 1508970993), .lit (.int .u32 2453635748), .lit (.int .u32 2870763221), .lit (.int .u32 3624381080), .lit (.int .u32 310598401), .lit (.int .u32 607225278), .lit (.int .u32 1426881987), .lit (.int .u32 1925078388), .lit (.int .u32 2162078206), .lit (.int .u32 2614888103), .lit (.int .u32 3248222580), .lit (.int .u32 3835390401), .lit (.int .u32 4022224774), .lit (.int .u32 264347078), .lit (.int .u32 604807628), .lit (.int .u32 770255983), .lit (.int .u32 1249150122), .lit (.int .u32 1555081692), .lit (.int .u32 1996064986), .lit (.int .u32 2554220882), .lit (.int .u32 2821834349), .lit (.int .u32 2952996808), .lit (.int .u32 3210313671), .lit (.int .u32 3336571891), .lit (.int .u32 3584528711), .lit (.int .u32 113926993), .lit (.int .u32 338241895), .lit (.int .u32 666307205), .lit (.int .u32 773529912), .lit (.int .u32 1294757372), .lit (.int .u32 1396182291), .lit (.int .u32 1695183700), .lit (.int .u32 1986661051), .lit (.int .u32 2177026350), .lit (.int .u32 2456956037), .lit (.int .u32 2730485921), .lit (.int .u32 2820302411), .lit (.int .u32 3259730800), .lit (.int .u32 3345764771), .lit (.int .u32 3516065817), .lit (.int .u32 3600352804), .lit (.int .u32 4094571909), .lit (.int .u32 275423344), .lit (.int .u32 430227734), .lit (.int .u32 506948616), .lit (.int .u32 659060556), .lit (.int .u32 883997877), .lit (.int .u32 958139571), .lit (.int .u32 1322822218), .lit (.int .u32 1537002063), .lit (.int .u32 1747873779), .lit (.int .u32 1955562222), .lit (.int .u32 2024104815), .lit (.int .u32 2227730452), .lit (.int .u32 2361852424), .lit (.int .u32 2428436474), .lit (.int .u32 2756734187), .lit (.int .u32 3204031479), .lit (.int .u32 3329325298)]
def laid_lighterage_shas_squares {H : Type} : DataW H := .agg [.lit (.int .u32 1779033703), .lit (.int .u32 3144134277), .lit (.int .u32 1013904242), .lit (.int .u32 2773480762), .lit (.int .u32 1359893119), .lit (.int .u32 2600822924), .lit (.int .u32 528734635), .lit (.int .u32 1541459225)]

/-- 'lighteragelaw0.NamesNumbers': WHATEVER THE INPUT: true; the input reads as it did. -/
def namesNumbersSpec : ChangeSpec := { name := "namesNumbers", fn := fun _ => fun
  | [] => { results := [.lit (.bool true)], args := [] }
  | _ => none }
def namesNumbersRow : OpenClaim := { program := "ytiiohfojejfolaadoor", sum := "ebbe04af61407ed2836fa0295b1a2ddabb9aa5ce735ee8209cb305a17b4556e4", func := "lighterage/lighteragelaw0.NamesNumbers", spec := "namesNumbers", named := ["lighterage/shas.squares", "lighterage/shas.cubes"], plainKeys := false, apart := false, laid := [("lighterage/shas.cubes", laid_lighterage_shas_cubes), ("lighterage/shas.squares", laid_lighterage_shas_squares)] }
def NamesNumbersSaid : Prop := namesNumbersRow.holds Tryd.pinned (OpenSpec.ofChange namesNumbersSpec)

/-- ITS FALSE NEIGHBOUR: 'it returns false'. Refute it at one input. -/
def namesNumbersWrong : ChangeSpec := { name := "namesNumbers", fn := fun _ => fun
  | [] => { results := [.lit (.bool false)], args := [] }
  | _ => none }
def NamesNumbersWrongFalsely : Prop := namesNumbersRow.holds Tryd.pinned (OpenSpec.ofChange namesNumbersWrong)

/-- 'lighteragelaw1.ShasOrder': WHATEVER THE INPUT: true; the input reads as it did. -/
def shasOrderSpec : ChangeSpec := { name := "shasOrder", fn := fun _ => fun
  | [d1, d2, d3] => { results := [.lit (.bool true)], args := [d1, d2, d3] }
  | _ => none }
def shasOrderRow : OpenClaim := { program := "ytiiohfojejfolaadoor", sum := "ebbe04af61407ed2836fa0295b1a2ddabb9aa5ce735ee8209cb305a17b4556e4", func := "lighterage/lighteragelaw1.ShasOrder", spec := "shasOrder", inPlace := ["internal/bytealg.Compare"], named := ["lighterage/shas.squares", "lighterage/shas.cubes"], plainKeys := false, apart := false, laid := [("lighterage/shas.cubes", laid_lighterage_shas_cubes), ("lighterage/shas.squares", laid_lighterage_shas_squares)] }
def ShasOrderSaid : Prop := shasOrderRow.holds Tryd.pinned (OpenSpec.ofChange shasOrderSpec)

/-- ITS FALSE NEIGHBOUR: 'it returns false'. Refute it at one input. -/
def shasOrderWrong : ChangeSpec := { name := "shasOrder", fn := fun _ => fun
  | [d1, d2, d3] => { results := [.lit (.bool false)], args := [d1, d2, d3] }
  | _ => none }
def ShasOrderWrongFalsely : Prop := shasOrderRow.holds Tryd.pinned (OpenSpec.ofChange shasOrderWrong)

/-- 'lighteragelaw1.ShasBlocks': WHATEVER THE INPUT: true; the input reads as it did. -/
def shasBlocksSpec : ChangeSpec := { name := "shasBlocks", fn := fun _ => fun
  | [d1, d2] => { results := [.lit (.bool true)], args := [d1, d2] }
  | _ => none }
def shasBlocksRow : OpenClaim := { program := "ytiiohfojejfolaadoor", sum := "ebbe04af61407ed2836fa0295b1a2ddabb9aa5ce735ee8209cb305a17b4556e4", func := "lighterage/lighteragelaw1.ShasBlocks", spec := "shasBlocks", inPlace := ["internal/bytealg.Compare"], named := ["lighterage/shas.squares", "lighterage/shas.cubes"], plainKeys := false, apart := false, laid := [("lighterage/shas.cubes", laid_lighterage_shas_cubes), ("lighterage/shas.squares", laid_lighterage_shas_squares)] }
def ShasBlocksSaid : Prop := shasBlocksRow.holds Tryd.pinned (OpenSpec.ofChange shasBlocksSpec)

/-- ITS FALSE NEIGHBOUR: 'it returns false'. Refute it at one input. -/
def shasBlocksWrong : ChangeSpec := { name := "shasBlocks", fn := fun _ => fun
  | [d1, d2] => { results := [.lit (.bool false)], args := [d1, d2] }
  | _ => none }
def ShasBlocksWrongFalsely : Prop := shasBlocksRow.holds Tryd.pinned (OpenSpec.ofChange shasBlocksWrong)

/-- 'lighteragelaw1.ShasTells': WHATEVER THE INPUT: true; the input reads as it did. -/
def shasTellsSpec : ChangeSpec := { name := "shasTells", fn := fun _ => fun
  | [d1, d2, d3, d4] => { results := [.lit (.bool true)], args := [d1, d2, d3, d4] }
  | _ => none }
def shasTellsRow : OpenClaim := { program := "ytiiohfojejfolaadoor", sum := "ebbe04af61407ed2836fa0295b1a2ddabb9aa5ce735ee8209cb305a17b4556e4", func := "lighterage/lighteragelaw1.ShasTells", spec := "shasTells", inPlace := ["internal/bytealg.Compare"], named := ["lighterage/shas.squares", "lighterage/shas.cubes"], plainKeys := false, apart := false, laid := [("lighterage/shas.cubes", laid_lighterage_shas_cubes), ("lighterage/shas.squares", laid_lighterage_shas_squares)] }
def ShasTellsSaid : Prop := shasTellsRow.holds Tryd.pinned (OpenSpec.ofChange shasTellsSpec)

/-- ITS FALSE NEIGHBOUR: 'it returns false'. Refute it at one input. -/
def shasTellsWrong : ChangeSpec := { name := "shasTells", fn := fun _ => fun
  | [d1, d2, d3, d4] => { results := [.lit (.bool false)], args := [d1, d2, d3, d4] }
  | _ => none }
def ShasTellsWrongFalsely : Prop := shasTellsRow.holds Tryd.pinned (OpenSpec.ofChange shasTellsWrong)

/-- 'lighteragelaw1.ShasForms': WHATEVER THE INPUT: true; the input reads as it did. -/
def shasFormsSpec : ChangeSpec := { name := "shasForms", fn := fun _ => fun
  | [d] => { results := [.lit (.bool true)], args := [d] }
  | _ => none }
def shasFormsRow : OpenClaim := { program := "ytiiohfojejfolaadoor", sum := "ebbe04af61407ed2836fa0295b1a2ddabb9aa5ce735ee8209cb305a17b4556e4", func := "lighterage/lighteragelaw1.ShasForms", spec := "shasForms", inPlace := ["internal/bytealg.Compare"], named := ["lighterage/shas.squares", "lighterage/shas.cubes"], plainKeys := false, apart := false, laid := [("lighterage/shas.cubes", laid_lighterage_shas_cubes), ("lighterage/shas.squares", laid_lighterage_shas_squares)] }
def ShasFormsSaid : Prop := shasFormsRow.holds Tryd.pinned (OpenSpec.ofChange shasFormsSpec)

/-- ITS FALSE NEIGHBOUR: 'it returns false'. Refute it at one input. -/
def shasFormsWrong : ChangeSpec := { name := "shasForms", fn := fun _ => fun
  | [d] => { results := [.lit (.bool false)], args := [d] }
  | _ => none }
def ShasFormsWrongFalsely : Prop := shasFormsRow.holds Tryd.pinned (OpenSpec.ofChange shasFormsWrong)

/-- 'lighteragelaw1.ShasOnce': WHATEVER THE INPUT: true; the input reads as it did. -/
def shasOnceSpec : ChangeSpec := { name := "shasOnce", fn := fun _ => fun
  | [d] => { results := [.lit (.bool true)], args := [d] }
  | _ => none }
def shasOnceRow : OpenClaim := { program := "ytiiohfojejfolaadoor", sum := "ebbe04af61407ed2836fa0295b1a2ddabb9aa5ce735ee8209cb305a17b4556e4", func := "lighterage/lighteragelaw1.ShasOnce", spec := "shasOnce", inPlace := ["internal/bytealg.Compare"], named := ["lighterage/shas.squares", "lighterage/shas.cubes"], plainKeys := false, apart := false, laid := [("lighterage/shas.cubes", laid_lighterage_shas_cubes), ("lighterage/shas.squares", laid_lighterage_shas_squares)] }
def ShasOnceSaid : Prop := shasOnceRow.holds Tryd.pinned (OpenSpec.ofChange shasOnceSpec)

/-- ITS FALSE NEIGHBOUR: 'it returns false'. Refute it at one input. -/
def shasOnceWrong : ChangeSpec := { name := "shasOnce", fn := fun _ => fun
  | [d] => { results := [.lit (.bool false)], args := [d] }
  | _ => none }
def ShasOnceWrongFalsely : Prop := shasOnceRow.holds Tryd.pinned (OpenSpec.ofChange shasOnceWrong)

/-- 'lighteragelaw4.IdsxSizes': WHATEVER THE INPUT: true; the input reads as it did. -/
def idsxSizesSpec : ChangeSpec := { name := "idsxSizes", fn := fun _ => fun
  | [d1, d2] => { results := [.lit (.bool true)], args := [d1, d2] }
  | _ => none }
def idsxSizesRow : OpenClaim := { program := "ytiiohfojejfolaadoor", sum := "ebbe04af61407ed2836fa0295b1a2ddabb9aa5ce735ee8209cb305a17b4556e4", func := "lighterage/lighteragelaw4.IdsxSizes", spec := "idsxSizes", unfollowed := true, recurses := true, named := ["lighterage/shas.squares", "lighterage/shas.cubes"], plainKeys := false, apart := false, laid := [("lighterage/shas.cubes", laid_lighterage_shas_cubes), ("lighterage/shas.squares", laid_lighterage_shas_squares)] }
def IdsxSizesSaid : Prop := idsxSizesRow.holds Tryd.pinned (OpenSpec.ofChange idsxSizesSpec)

/-- ITS FALSE NEIGHBOUR: 'it returns false'. Refute it at one input. -/
def idsxSizesWrong : ChangeSpec := { name := "idsxSizes", fn := fun _ => fun
  | [d1, d2] => { results := [.lit (.bool false)], args := [d1, d2] }
  | _ => none }
def IdsxSizesWrongFalsely : Prop := idsxSizesRow.holds Tryd.pinned (OpenSpec.ofChange idsxSizesWrong)

/-- 'lighteragelaw11.BlocTells': WHATEVER THE INPUT: true; the input reads as it did. -/
def blocTellsSpec : ChangeSpec := { name := "blocTells", fn := fun _ => fun
  | [d1, d2, d3, d4, d5, d6, d7] => { results := [.lit (.bool true)], args := [d1, d2, d3, d4, d5, d6, d7] }
  | _ => none }
def blocTellsRow : OpenClaim := { program := "ytiiohfojejfolaadoor", sum := "ebbe04af61407ed2836fa0295b1a2ddabb9aa5ce735ee8209cb305a17b4556e4", func := "lighterage/lighteragelaw11.BlocTells", spec := "blocTells", unfollowed := true, recurses := true, named := ["lighterage/shas.squares", "lighterage/shas.cubes"], plainKeys := false, apart := false, laid := [("lighterage/shas.cubes", laid_lighterage_shas_cubes), ("lighterage/shas.squares", laid_lighterage_shas_squares)] }
def BlocTellsSaid : Prop := blocTellsRow.holds Tryd.pinned (OpenSpec.ofChange blocTellsSpec)

/-- ITS FALSE NEIGHBOUR: 'it returns false'. Refute it at one input. -/
def blocTellsWrong : ChangeSpec := { name := "blocTells", fn := fun _ => fun
  | [d1, d2, d3, d4, d5, d6, d7] => { results := [.lit (.bool false)], args := [d1, d2, d3, d4, d5, d6, d7] }
  | _ => none }
def BlocTellsWrongFalsely : Prop := blocTellsRow.holds Tryd.pinned (OpenSpec.ofChange blocTellsWrong)

/-- 'lighteragelaw13.PoolNames': WHATEVER THE INPUT: true; the input reads as it did. -/
def poolNamesSpec : ChangeSpec := { name := "poolNames", fn := fun _ => fun
  | [d1, d2] => { results := [.lit (.bool true)], args := [d1, d2] }
  | _ => none }
def poolNamesRow : OpenClaim := { program := "ytiiohfojejfolaadoor", sum := "ebbe04af61407ed2836fa0295b1a2ddabb9aa5ce735ee8209cb305a17b4556e4", func := "lighterage/lighteragelaw13.PoolNames", spec := "poolNames", unfollowed := true, recurses := true, named := ["lighterage/shas.squares", "lighterage/shas.cubes"], plainKeys := false, apart := false, laid := [("lighterage/shas.cubes", laid_lighterage_shas_cubes), ("lighterage/shas.squares", laid_lighterage_shas_squares)] }
def PoolNamesSaid : Prop := poolNamesRow.holds Tryd.pinned (OpenSpec.ofChange poolNamesSpec)

/-- ITS FALSE NEIGHBOUR: 'it returns false'. Refute it at one input. -/
def poolNamesWrong : ChangeSpec := { name := "poolNames", fn := fun _ => fun
  | [d1, d2] => { results := [.lit (.bool false)], args := [d1, d2] }
  | _ => none }
def PoolNamesWrongFalsely : Prop := poolNamesRow.holds Tryd.pinned (OpenSpec.ofChange poolNamesWrong)

/-- 'lighteragelaw13.PoolTotal': WHATEVER THE INPUT: true; the input reads as it did. -/
def poolTotalSpec : ChangeSpec := { name := "poolTotal", fn := fun _ => fun
  | [d1, d2] => { results := [.lit (.bool true)], args := [d1, d2] }
  | _ => none }
def poolTotalRow : OpenClaim := { program := "ytiiohfojejfolaadoor", sum := "ebbe04af61407ed2836fa0295b1a2ddabb9aa5ce735ee8209cb305a17b4556e4", func := "lighterage/lighteragelaw13.PoolTotal", spec := "poolTotal", unfollowed := true, recurses := true, named := ["lighterage/shas.squares", "lighterage/shas.cubes"], plainKeys := false, apart := false, laid := [("lighterage/shas.cubes", laid_lighterage_shas_cubes), ("lighterage/shas.squares", laid_lighterage_shas_squares)] }
def PoolTotalSaid : Prop := poolTotalRow.holds Tryd.pinned (OpenSpec.ofChange poolTotalSpec)

/-- ITS FALSE NEIGHBOUR: 'it returns false'. Refute it at one input. -/
def poolTotalWrong : ChangeSpec := { name := "poolTotal", fn := fun _ => fun
  | [d1, d2] => { results := [.lit (.bool false)], args := [d1, d2] }
  | _ => none }
def PoolTotalWrongFalsely : Prop := poolTotalRow.holds Tryd.pinned (OpenSpec.ofChange poolTotalWrong)

/-- 'lighteragelaw13.PoolOwn': WHATEVER THE INPUT: true; the input reads as it did. -/
def poolOwnSpec : ChangeSpec := { name := "poolOwn", fn := fun _ => fun
  | [d1, d2] => { results := [.lit (.bool true)], args := [d1, d2] }
  | _ => none }
def poolOwnRow : OpenClaim := { program := "ytiiohfojejfolaadoor", sum := "ebbe04af61407ed2836fa0295b1a2ddabb9aa5ce735ee8209cb305a17b4556e4", func := "lighterage/lighteragelaw13.PoolOwn", spec := "poolOwn", unfollowed := true, recurses := true, named := ["lighterage/shas.squares", "lighterage/shas.cubes"], plainKeys := false, apart := false, laid := [("lighterage/shas.cubes", laid_lighterage_shas_cubes), ("lighterage/shas.squares", laid_lighterage_shas_squares)] }
def PoolOwnSaid : Prop := poolOwnRow.holds Tryd.pinned (OpenSpec.ofChange poolOwnSpec)

/-- ITS FALSE NEIGHBOUR: 'it returns false'. Refute it at one input. -/
def poolOwnWrong : ChangeSpec := { name := "poolOwn", fn := fun _ => fun
  | [d1, d2] => { results := [.lit (.bool false)], args := [d1, d2] }
  | _ => none }
def PoolOwnWrongFalsely : Prop := poolOwnRow.holds Tryd.pinned (OpenSpec.ofChange poolOwnWrong)

/- THE SECOND FORM. 'bulk': how many values and letters a reading holds, each counted each time it is reached (what is shared counts as often as it is met; a slice's spare places count too). A statement '..UptoSaid' is the law's where the arguments, and the package variables that the reading takes, are together of bulk at most 1048576: NARROWER than '..Said'. Prove '..Said' where nothing that the law and all that it calls make is longer than what came in: it says more and counts as full. Else prove '..UptoSaid'. A law counts once. -/
mutual
def uptoBulk {H : Type} : DataW H → Nat
  | .lit (.string bytes) => bytes.length + 1
  | .lit _ => 1
  | .nil => 1
  | .ptr d => uptoBulk d + 1
  | .slice elems spare => uptoBulkAll elems + uptoBulkAll spare + 1
  | .agg parts => uptoBulkAll parts + 1
  | .iface _ d => uptoBulk d + 1
  | .map entries => uptoBulkEntries entries + 1
  | .held _ => 1
def uptoBulkAll {H : Type} : List (DataW H) → Nat
  | [] => 0
  | d :: r => uptoBulk d + uptoBulkAll r
def uptoBulkEntries {H : Type} : List (Lit × DataW H) → Nat
  | [] => 0
  | x :: r => uptoBulkEntry x + uptoBulkEntries r
def uptoBulkEntry {H : Type} : Lit × DataW H → Nat
  | (.string bytes, d) => bytes.length + uptoBulk d + 1
  | (_, d) => uptoBulk d + 1
 end
def uptoSmall : (H : Type) → List (DataW H) → Bool := fun _ ds => decide (uptoBulkAll ds ≤ 1048576)
def OpenSpec.upto (s : _root_.Go.ChangeSpec) : _root_.Go.OpenSpec := { _root_.Go.OpenSpec.ofChange s with cond := some uptoSmall }

/-- 'lighteragelaw0.NamesNumbers', WHERE WHAT IT READS IS OF BULK AT MOST 1048576: true; the input reads as it did. -/
def namesNumbersUptoRow : OpenClaim := { program := "ytiiohfojejfolaadoor", sum := "ebbe04af61407ed2836fa0295b1a2ddabb9aa5ce735ee8209cb305a17b4556e4", func := "lighterage/lighteragelaw0.NamesNumbers", spec := "namesNumbers", named := ["lighterage/shas.squares", "lighterage/shas.cubes"], plainKeys := false, apart := false, laid := [("lighterage/shas.cubes", laid_lighterage_shas_cubes), ("lighterage/shas.squares", laid_lighterage_shas_squares)], narrowed := true }
def NamesNumbersUptoSaid : Prop := namesNumbersUptoRow.holds Tryd.pinned (OpenSpec.upto namesNumbersSpec)

/-- 'lighteragelaw1.ShasOrder', WHERE WHAT IT READS IS OF BULK AT MOST 1048576: true; the input reads as it did. -/
def shasOrderUptoRow : OpenClaim := { program := "ytiiohfojejfolaadoor", sum := "ebbe04af61407ed2836fa0295b1a2ddabb9aa5ce735ee8209cb305a17b4556e4", func := "lighterage/lighteragelaw1.ShasOrder", spec := "shasOrder", inPlace := ["internal/bytealg.Compare"], named := ["lighterage/shas.squares", "lighterage/shas.cubes"], plainKeys := false, apart := false, laid := [("lighterage/shas.cubes", laid_lighterage_shas_cubes), ("lighterage/shas.squares", laid_lighterage_shas_squares)], narrowed := true }
def ShasOrderUptoSaid : Prop := shasOrderUptoRow.holds Tryd.pinned (OpenSpec.upto shasOrderSpec)

/-- 'lighteragelaw1.ShasBlocks', WHERE WHAT IT READS IS OF BULK AT MOST 1048576: true; the input reads as it did. -/
def shasBlocksUptoRow : OpenClaim := { program := "ytiiohfojejfolaadoor", sum := "ebbe04af61407ed2836fa0295b1a2ddabb9aa5ce735ee8209cb305a17b4556e4", func := "lighterage/lighteragelaw1.ShasBlocks", spec := "shasBlocks", inPlace := ["internal/bytealg.Compare"], named := ["lighterage/shas.squares", "lighterage/shas.cubes"], plainKeys := false, apart := false, laid := [("lighterage/shas.cubes", laid_lighterage_shas_cubes), ("lighterage/shas.squares", laid_lighterage_shas_squares)], narrowed := true }
def ShasBlocksUptoSaid : Prop := shasBlocksUptoRow.holds Tryd.pinned (OpenSpec.upto shasBlocksSpec)

/-- 'lighteragelaw1.ShasTells', WHERE WHAT IT READS IS OF BULK AT MOST 1048576: true; the input reads as it did. -/
def shasTellsUptoRow : OpenClaim := { program := "ytiiohfojejfolaadoor", sum := "ebbe04af61407ed2836fa0295b1a2ddabb9aa5ce735ee8209cb305a17b4556e4", func := "lighterage/lighteragelaw1.ShasTells", spec := "shasTells", inPlace := ["internal/bytealg.Compare"], named := ["lighterage/shas.squares", "lighterage/shas.cubes"], plainKeys := false, apart := false, laid := [("lighterage/shas.cubes", laid_lighterage_shas_cubes), ("lighterage/shas.squares", laid_lighterage_shas_squares)], narrowed := true }
def ShasTellsUptoSaid : Prop := shasTellsUptoRow.holds Tryd.pinned (OpenSpec.upto shasTellsSpec)

/-- 'lighteragelaw1.ShasForms', WHERE WHAT IT READS IS OF BULK AT MOST 1048576: true; the input reads as it did. -/
def shasFormsUptoRow : OpenClaim := { program := "ytiiohfojejfolaadoor", sum := "ebbe04af61407ed2836fa0295b1a2ddabb9aa5ce735ee8209cb305a17b4556e4", func := "lighterage/lighteragelaw1.ShasForms", spec := "shasForms", inPlace := ["internal/bytealg.Compare"], named := ["lighterage/shas.squares", "lighterage/shas.cubes"], plainKeys := false, apart := false, laid := [("lighterage/shas.cubes", laid_lighterage_shas_cubes), ("lighterage/shas.squares", laid_lighterage_shas_squares)], narrowed := true }
def ShasFormsUptoSaid : Prop := shasFormsUptoRow.holds Tryd.pinned (OpenSpec.upto shasFormsSpec)

/-- 'lighteragelaw1.ShasOnce', WHERE WHAT IT READS IS OF BULK AT MOST 1048576: true; the input reads as it did. -/
def shasOnceUptoRow : OpenClaim := { program := "ytiiohfojejfolaadoor", sum := "ebbe04af61407ed2836fa0295b1a2ddabb9aa5ce735ee8209cb305a17b4556e4", func := "lighterage/lighteragelaw1.ShasOnce", spec := "shasOnce", inPlace := ["internal/bytealg.Compare"], named := ["lighterage/shas.squares", "lighterage/shas.cubes"], plainKeys := false, apart := false, laid := [("lighterage/shas.cubes", laid_lighterage_shas_cubes), ("lighterage/shas.squares", laid_lighterage_shas_squares)], narrowed := true }
def ShasOnceUptoSaid : Prop := shasOnceUptoRow.holds Tryd.pinned (OpenSpec.upto shasOnceSpec)

/-- 'lighteragelaw4.IdsxSizes', WHERE WHAT IT READS IS OF BULK AT MOST 1048576: true; the input reads as it did. -/
def idsxSizesUptoRow : OpenClaim := { program := "ytiiohfojejfolaadoor", sum := "ebbe04af61407ed2836fa0295b1a2ddabb9aa5ce735ee8209cb305a17b4556e4", func := "lighterage/lighteragelaw4.IdsxSizes", spec := "idsxSizes", unfollowed := true, recurses := true, named := ["lighterage/shas.squares", "lighterage/shas.cubes"], plainKeys := false, apart := false, laid := [("lighterage/shas.cubes", laid_lighterage_shas_cubes), ("lighterage/shas.squares", laid_lighterage_shas_squares)], narrowed := true }
def IdsxSizesUptoSaid : Prop := idsxSizesUptoRow.holds Tryd.pinned (OpenSpec.upto idsxSizesSpec)

/-- 'lighteragelaw11.BlocTells', WHERE WHAT IT READS IS OF BULK AT MOST 1048576: true; the input reads as it did. -/
def blocTellsUptoRow : OpenClaim := { program := "ytiiohfojejfolaadoor", sum := "ebbe04af61407ed2836fa0295b1a2ddabb9aa5ce735ee8209cb305a17b4556e4", func := "lighterage/lighteragelaw11.BlocTells", spec := "blocTells", unfollowed := true, recurses := true, named := ["lighterage/shas.squares", "lighterage/shas.cubes"], plainKeys := false, apart := false, laid := [("lighterage/shas.cubes", laid_lighterage_shas_cubes), ("lighterage/shas.squares", laid_lighterage_shas_squares)], narrowed := true }
def BlocTellsUptoSaid : Prop := blocTellsUptoRow.holds Tryd.pinned (OpenSpec.upto blocTellsSpec)

/-- 'lighteragelaw13.PoolNames', WHERE WHAT IT READS IS OF BULK AT MOST 1048576: true; the input reads as it did. -/
def poolNamesUptoRow : OpenClaim := { program := "ytiiohfojejfolaadoor", sum := "ebbe04af61407ed2836fa0295b1a2ddabb9aa5ce735ee8209cb305a17b4556e4", func := "lighterage/lighteragelaw13.PoolNames", spec := "poolNames", unfollowed := true, recurses := true, named := ["lighterage/shas.squares", "lighterage/shas.cubes"], plainKeys := false, apart := false, laid := [("lighterage/shas.cubes", laid_lighterage_shas_cubes), ("lighterage/shas.squares", laid_lighterage_shas_squares)], narrowed := true }
def PoolNamesUptoSaid : Prop := poolNamesUptoRow.holds Tryd.pinned (OpenSpec.upto poolNamesSpec)

/-- 'lighteragelaw13.PoolTotal', WHERE WHAT IT READS IS OF BULK AT MOST 1048576: true; the input reads as it did. -/
def poolTotalUptoRow : OpenClaim := { program := "ytiiohfojejfolaadoor", sum := "ebbe04af61407ed2836fa0295b1a2ddabb9aa5ce735ee8209cb305a17b4556e4", func := "lighterage/lighteragelaw13.PoolTotal", spec := "poolTotal", unfollowed := true, recurses := true, named := ["lighterage/shas.squares", "lighterage/shas.cubes"], plainKeys := false, apart := false, laid := [("lighterage/shas.cubes", laid_lighterage_shas_cubes), ("lighterage/shas.squares", laid_lighterage_shas_squares)], narrowed := true }
def PoolTotalUptoSaid : Prop := poolTotalUptoRow.holds Tryd.pinned (OpenSpec.upto poolTotalSpec)

/-- 'lighteragelaw13.PoolOwn', WHERE WHAT IT READS IS OF BULK AT MOST 1048576: true; the input reads as it did. -/
def poolOwnUptoRow : OpenClaim := { program := "ytiiohfojejfolaadoor", sum := "ebbe04af61407ed2836fa0295b1a2ddabb9aa5ce735ee8209cb305a17b4556e4", func := "lighterage/lighteragelaw13.PoolOwn", spec := "poolOwn", unfollowed := true, recurses := true, named := ["lighterage/shas.squares", "lighterage/shas.cubes"], plainKeys := false, apart := false, laid := [("lighterage/shas.cubes", laid_lighterage_shas_cubes), ("lighterage/shas.squares", laid_lighterage_shas_squares)], narrowed := true }
def PoolOwnUptoSaid : Prop := poolOwnUptoRow.holds Tryd.pinned (OpenSpec.upto poolOwnSpec)

end Rows
end Go.Proofs.YtiiohfojejfolaaDoor
