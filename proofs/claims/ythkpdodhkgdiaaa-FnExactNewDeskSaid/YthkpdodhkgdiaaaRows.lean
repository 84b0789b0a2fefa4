/-
  No cell of these rows narrows 'for every input' (looked for: loops, veiled, ifaces, maps, wideKeys, modest, calm, conditions, laid).
  DERIVED. THE GIVEN ROWS OF THIS SEAT. 12 by the template 'for every input the law returns true; each argument reads behind the call as it read before'; 0 by the template 'total and deterministic' (their statements: YthkpdodhkgdiaaaTotals.lean).
  GIVEN WITH THE SEED: the statements are not yours to turn. If you find one false, say at which input.
  Laid BY PROGRAM, IN A SANDBOX (cutbox-rows.mjs): the forced cells as the released guide's own fill.sh prints them over the translation bc878970b08c0a00… (all of the seat's roots in one cut). By AI agents, Wed Nov 11 2026. No macro, syntax, notation, axiom, sorry.
-/
import Derived.Test.YthkpdodhkgdiaaaChecked
import GoSem.Claim
import GoSem.ClaimJoined
import GoSem.ClaimMapViews
import Derived.JoinedTies
import Derived.KernelRfl
namespace Go.Proofs.Ythkpdodhkgdiaaa
/- THE CELL 'sum', in the pinned program and in every row, IS THE sha256 OF THE DUMP (.gsa) THAT YthkpdodhkgdiaaaProg.lean LOADS. Nothing in Lean hashes anything: it is a label: what it is worth is what the hold of that sum in a sandbox is worth. -/
noncomputable def Try.pinned : Pinned := { name := "ythkpdodhkgdiaaa", sum := "bc878970b08c0a0052f9d833a845110e836f3094312a39b123abe3c003343064", checked := Try.checked }
namespace Rows
def none {H : Type} : Left H := { results := [], args := [] }

/-- 'laws.FnExactNamedBraid': WHATEVER THE INPUT: true; the input reads as it did. -/
def fnExactNamedBraidSpec : ChangeSpec := { name := "fnExactNamedBraid", fn := fun _ => fun
  | [d] => { results := [.lit (.bool true)], args := [d] }
  | _ => none }
def fnExactNamedBraidRow : OpenClaim := { program := "ythkpdodhkgdiaaa", sum := "bc878970b08c0a0052f9d833a845110e836f3094312a39b123abe3c003343064", func := "loop.example/g01119/laws.FnExactNamedBraid", spec := "fnExactNamedBraid", unfollowed := true, recurses := true, apart := false }
def FnExactNamedBraidSaid : Prop := fnExactNamedBraidRow.holds Try.pinned (OpenSpec.ofChange fnExactNamedBraidSpec)

/-- ITS FALSE NEIGHBOUR: 'it returns false'. Refute it at one input. -/
def fnExactNamedBraidWrong : ChangeSpec := { name := "fnExactNamedBraid", fn := fun _ => fun
  | [d] => { results := [.lit (.bool false)], args := [d] }
  | _ => none }
def FnExactNamedBraidWrongFalsely : Prop := fnExactNamedBraidRow.holds Try.pinned (OpenSpec.ofChange fnExactNamedBraidWrong)

/-- 'laws.FnExactCountRackTables': WHATEVER THE INPUT: true; the input reads as it did. -/
def fnExactCountRackTablesSpec : ChangeSpec := { name := "fnExactCountRackTables", fn := fun _ => fun
  | [d] => { results := [.lit (.bool true)], args := [d] }
  | _ => none }
def fnExactCountRackTablesRow : OpenClaim := { program := "ythkpdodhkgdiaaa", sum := "bc878970b08c0a0052f9d833a845110e836f3094312a39b123abe3c003343064", func := "loop.example/g01119/laws.FnExactCountRackTables", spec := "fnExactCountRackTables", unfollowed := true, recurses := true, apart := false }
def FnExactCountRackTablesSaid : Prop := fnExactCountRackTablesRow.holds Try.pinned (OpenSpec.ofChange fnExactCountRackTablesSpec)

/-- ITS FALSE NEIGHBOUR: 'it returns false'. Refute it at one input. -/
def fnExactCountRackTablesWrong : ChangeSpec := { name := "fnExactCountRackTables", fn := fun _ => fun
  | [d] => { results := [.lit (.bool false)], args := [d] }
  | _ => none }
def FnExactCountRackTablesWrongFalsely : Prop := fnExactCountRackTablesRow.holds Try.pinned (OpenSpec.ofChange fnExactCountRackTablesWrong)

/-- 'laws.FnExactNewDesk': WHATEVER THE INPUT: true; the input reads as it did. -/
def fnExactNewDeskSpec : ChangeSpec := { name := "fnExactNewDesk", fn := fun _ => fun
  | [] => { results := [.lit (.bool true)], args := [] }
  | _ => none }
def fnExactNewDeskRow : OpenClaim := { program := "ythkpdodhkgdiaaa", sum := "bc878970b08c0a0052f9d833a845110e836f3094312a39b123abe3c003343064", func := "loop.example/g01119/laws.FnExactNewDesk", spec := "fnExactNewDesk", unfollowed := true, recurses := true, apart := false }
def FnExactNewDeskSaid : Prop := fnExactNewDeskRow.holds Try.pinned (OpenSpec.ofChange fnExactNewDeskSpec)

/-- ITS FALSE NEIGHBOUR: 'it returns false'. Refute it at one input. -/
def fnExactNewDeskWrong : ChangeSpec := { name := "fnExactNewDesk", fn := fun _ => fun
  | [] => { results := [.lit (.bool false)], args := [] }
  | _ => none }
def FnExactNewDeskWrongFalsely : Prop := fnExactNewDeskRow.holds Try.pinned (OpenSpec.ofChange fnExactNewDeskWrong)

/-- 'laws.FnExactComponentsOf': WHATEVER THE INPUT: true; the input reads as it did. -/
def fnExactComponentsOfSpec : ChangeSpec := { name := "fnExactComponentsOf", fn := fun _ => fun
  | [d] => { results := [.lit (.bool true)], args := [d] }
  | _ => none }
def fnExactComponentsOfRow : OpenClaim := { program := "ythkpdodhkgdiaaa", sum := "bc878970b08c0a0052f9d833a845110e836f3094312a39b123abe3c003343064", func := "loop.example/g01119/laws.FnExactComponentsOf", spec := "fnExactComponentsOf", unfollowed := true, recurses := true, apart := false }
def FnExactComponentsOfSaid : Prop := fnExactComponentsOfRow.holds Try.pinned (OpenSpec.ofChange fnExactComponentsOfSpec)

/-- ITS FALSE NEIGHBOUR: 'it returns false'. Refute it at one input. -/
def fnExactComponentsOfWrong : ChangeSpec := { name := "fnExactComponentsOf", fn := fun _ => fun
  | [d] => { results := [.lit (.bool false)], args := [d] }
  | _ => none }
def FnExactComponentsOfWrongFalsely : Prop := fnExactComponentsOfRow.holds Try.pinned (OpenSpec.ofChange fnExactComponentsOfWrong)

/-- 'laws.FnExactCountCycleTables': WHATEVER THE INPUT: true; the input reads as it did. -/
def fnExactCountCycleTablesSpec : ChangeSpec := { name := "fnExactCountCycleTables", fn := fun _ => fun
  | [d] => { results := [.lit (.bool true)], args := [d] }
  | _ => none }
def fnExactCountCycleTablesRow : OpenClaim := { program := "ythkpdodhkgdiaaa", sum := "bc878970b08c0a0052f9d833a845110e836f3094312a39b123abe3c003343064", func := "loop.example/g01119/laws.FnExactCountCycleTables", spec := "fnExactCountCycleTables", unfollowed := true, recurses := true, apart := false }
def FnExactCountCycleTablesSaid : Prop := fnExactCountCycleTablesRow.holds Try.pinned (OpenSpec.ofChange fnExactCountCycleTablesSpec)

/-- ITS FALSE NEIGHBOUR: 'it returns false'. Refute it at one input. -/
def fnExactCountCycleTablesWrong : ChangeSpec := { name := "fnExactCountCycleTables", fn := fun _ => fun
  | [d] => { results := [.lit (.bool false)], args := [d] }
  | _ => none }
def FnExactCountCycleTablesWrongFalsely : Prop := fnExactCountCycleTablesRow.holds Try.pinned (OpenSpec.ofChange fnExactCountCycleTablesWrong)

/-- 'laws.FnExactBoundOf': WHATEVER THE INPUT: true; the input reads as it did. -/
def fnExactBoundOfSpec : ChangeSpec := { name := "fnExactBoundOf", fn := fun _ => fun
  | [d1, d2, d3] => { results := [.lit (.bool true)], args := [d1, d2, d3] }
  | _ => none }
def fnExactBoundOfRow : OpenClaim := { program := "ythkpdodhkgdiaaa", sum := "bc878970b08c0a0052f9d833a845110e836f3094312a39b123abe3c003343064", func := "loop.example/g01119/laws.FnExactBoundOf", spec := "fnExactBoundOf", unfollowed := true, recurses := true, apart := false }
def FnExactBoundOfSaid : Prop := fnExactBoundOfRow.holds Try.pinned (OpenSpec.ofChange fnExactBoundOfSpec)

/-- ITS FALSE NEIGHBOUR: 'it returns false'. Refute it at one input. -/
def fnExactBoundOfWrong : ChangeSpec := { name := "fnExactBoundOf", fn := fun _ => fun
  | [d1, d2, d3] => { results := [.lit (.bool false)], args := [d1, d2, d3] }
  | _ => none }
def FnExactBoundOfWrongFalsely : Prop := fnExactBoundOfRow.holds Try.pinned (OpenSpec.ofChange fnExactBoundOfWrong)

/-- 'laws.FnExactCountSolutionTables': WHATEVER THE INPUT: true; the input reads as it did. -/
def fnExactCountSolutionTablesSpec : ChangeSpec := { name := "fnExactCountSolutionTables", fn := fun _ => fun
  | [d] => { results := [.lit (.bool true)], args := [d] }
  | _ => none }
def fnExactCountSolutionTablesRow : OpenClaim := { program := "ythkpdodhkgdiaaa", sum := "bc878970b08c0a0052f9d833a845110e836f3094312a39b123abe3c003343064", func := "loop.example/g01119/laws.FnExactCountSolutionTables", spec := "fnExactCountSolutionTables", unfollowed := true, recurses := true, apart := false }
def FnExactCountSolutionTablesSaid : Prop := fnExactCountSolutionTablesRow.holds Try.pinned (OpenSpec.ofChange fnExactCountSolutionTablesSpec)

/-- ITS FALSE NEIGHBOUR: 'it returns false'. Refute it at one input. -/
def fnExactCountSolutionTablesWrong : ChangeSpec := { name := "fnExactCountSolutionTables", fn := fun _ => fun
  | [d] => { results := [.lit (.bool false)], args := [d] }
  | _ => none }
def FnExactCountSolutionTablesWrongFalsely : Prop := fnExactCountSolutionTablesRow.holds Try.pinned (OpenSpec.ofChange fnExactCountSolutionTablesWrong)

/-- 'laws.FnTori': WHATEVER THE INPUT: true; the input reads as it did. -/
def fnToriSpec : ChangeSpec := { name := "fnTori", fn := fun _ => fun
  | [d] => { results := [.lit (.bool true)], args := [d] }
  | _ => none }
def fnToriRow : OpenClaim := { program := "ythkpdodhkgdiaaa", sum := "bc878970b08c0a0052f9d833a845110e836f3094312a39b123abe3c003343064", func := "loop.example/g01119/laws.FnTori", spec := "fnTori", unfollowed := true, recurses := true, apart := false }
def FnToriSaid : Prop := fnToriRow.holds Try.pinned (OpenSpec.ofChange fnToriSpec)

/-- ITS FALSE NEIGHBOUR: 'it returns false'. Refute it at one input. -/
def fnToriWrong : ChangeSpec := { name := "fnTori", fn := fun _ => fun
  | [d] => { results := [.lit (.bool false)], args := [d] }
  | _ => none }
def FnToriWrongFalsely : Prop := fnToriRow.holds Try.pinned (OpenSpec.ofChange fnToriWrong)

/-- 'laws.FnExactLinkingNumbers': WHATEVER THE INPUT: true; the input reads as it did. -/
def fnExactLinkingNumbersSpec : ChangeSpec := { name := "fnExactLinkingNumbers", fn := fun _ => fun
  | [d] => { results := [.lit (.bool true)], args := [d] }
  | _ => none }
def fnExactLinkingNumbersRow : OpenClaim := { program := "ythkpdodhkgdiaaa", sum := "bc878970b08c0a0052f9d833a845110e836f3094312a39b123abe3c003343064", func := "loop.example/g01119/laws.FnExactLinkingNumbers", spec := "fnExactLinkingNumbers", unfollowed := true, recurses := true, apart := false }
def FnExactLinkingNumbersSaid : Prop := fnExactLinkingNumbersRow.holds Try.pinned (OpenSpec.ofChange fnExactLinkingNumbersSpec)

/-- ITS FALSE NEIGHBOUR: 'it returns false'. Refute it at one input. -/
def fnExactLinkingNumbersWrong : ChangeSpec := { name := "fnExactLinkingNumbers", fn := fun _ => fun
  | [d] => { results := [.lit (.bool false)], args := [d] }
  | _ => none }
def FnExactLinkingNumbersWrongFalsely : Prop := fnExactLinkingNumbersRow.holds Try.pinned (OpenSpec.ofChange fnExactLinkingNumbersWrong)

/-- 'laws.FnExactIsDesk': WHATEVER THE INPUT: true; the input reads as it did. -/
def fnExactIsDeskSpec : ChangeSpec := { name := "fnExactIsDesk", fn := fun _ => fun
  | [d] => { results := [.lit (.bool true)], args := [d] }
  | _ => none }
def fnExactIsDeskRow : OpenClaim := { program := "ythkpdodhkgdiaaa", sum := "bc878970b08c0a0052f9d833a845110e836f3094312a39b123abe3c003343064", func := "loop.example/g01119/laws.FnExactIsDesk", spec := "fnExactIsDesk", unfollowed := true, recurses := true, apart := false }
def FnExactIsDeskSaid : Prop := fnExactIsDeskRow.holds Try.pinned (OpenSpec.ofChange fnExactIsDeskSpec)

/-- ITS FALSE NEIGHBOUR: 'it returns false'. Refute it at one input. -/
def fnExactIsDeskWrong : ChangeSpec := { name := "fnExactIsDesk", fn := fun _ => fun
  | [d] => { results := [.lit (.bool false)], args := [d] }
  | _ => none }
def FnExactIsDeskWrongFalsely : Prop := fnExactIsDeskRow.holds Try.pinned (OpenSpec.ofChange fnExactIsDeskWrong)

/-- 'laws.FnExactIsColouring': WHATEVER THE INPUT: true; the input reads as it did. -/
def fnExactIsColouringSpec : ChangeSpec := { name := "fnExactIsColouring", fn := fun _ => fun
  | [d1, d2, d3] => { results := [.lit (.bool true)], args := [d1, d2, d3] }
  | _ => none }
def fnExactIsColouringRow : OpenClaim := { program := "ythkpdodhkgdiaaa", sum := "bc878970b08c0a0052f9d833a845110e836f3094312a39b123abe3c003343064", func := "loop.example/g01119/laws.FnExactIsColouring", spec := "fnExactIsColouring", unfollowed := true, recurses := true, apart := false }
def FnExactIsColouringSaid : Prop := fnExactIsColouringRow.holds Try.pinned (OpenSpec.ofChange fnExactIsColouringSpec)

/-- ITS FALSE NEIGHBOUR: 'it returns false'. Refute it at one input. -/
def fnExactIsColouringWrong : ChangeSpec := { name := "fnExactIsColouring", fn := fun _ => fun
  | [d1, d2, d3] => { results := [.lit (.bool false)], args := [d1, d2, d3] }
  | _ => none }
def FnExactIsColouringWrongFalsely : Prop := fnExactIsColouringRow.holds Try.pinned (OpenSpec.ofChange fnExactIsColouringWrong)

/-- 'laws.FnExactIsWeight': WHATEVER THE INPUT: true; the input reads as it did. -/
def fnExactIsWeightSpec : ChangeSpec := { name := "fnExactIsWeight", fn := fun _ => fun
  | [d1, d2, d3] => { results := [.lit (.bool true)], args := [d1, d2, d3] }
  | _ => none }
def fnExactIsWeightRow : OpenClaim := { program := "ythkpdodhkgdiaaa", sum := "bc878970b08c0a0052f9d833a845110e836f3094312a39b123abe3c003343064", func := "loop.example/g01119/laws.FnExactIsWeight", spec := "fnExactIsWeight", unfollowed := true, recurses := true, apart := false }
def FnExactIsWeightSaid : Prop := fnExactIsWeightRow.holds Try.pinned (OpenSpec.ofChange fnExactIsWeightSpec)

/-- ITS FALSE NEIGHBOUR: 'it returns false'. Refute it at one input. -/
def fnExactIsWeightWrong : ChangeSpec := { name := "fnExactIsWeight", fn := fun _ => fun
  | [d1, d2, d3] => { results := [.lit (.bool false)], args := [d1, d2, d3] }
  | _ => none }
def FnExactIsWeightWrongFalsely : Prop := fnExactIsWeightRow.holds Try.pinned (OpenSpec.ofChange fnExactIsWeightWrong)

/- THE SECOND FORM. 'bulk': how many values and letters a reading holds, each counted each time it is reached (what is shared counts as often as it is met; a slice's spare places count too). A statement '..UptoSaid' is the law's where the arguments, and the package variables that the reading takes, are together of bulk at most 1048576: NARROWER than '..Said'. Prove '..Said' where nothing that the law and all that it calls make is longer than what came in: it says more and counts as full. Else prove '..UptoSaid'. A law counts once. -/
mutual
def uptoBulk {H : Type} : DataW H → Nat
  | .lit (.string bytes) => bytes.length + 1
  | .lit _ => 1
  | .nil => 1
  | .ptr d => uptoBulk d + 1
  | .slice elems spare => uptoBulkAll elems + uptoBulkAll spare + 1
  | .agg parts => uptoBulkAll parts + 1
  | .iface _ d => uptoBulk d + 1
  | .map entries => uptoBulkEntries entries + 1
  | .held _ => 1
def uptoBulkAll {H : Type} : List (DataW H) → Nat
  | [] => 0
  | d :: r => uptoBulk d + uptoBulkAll r
def uptoBulkEntries {H : Type} : List (Lit × DataW H) → Nat
  | [] => 0
  | x :: r => uptoBulkEntry x + uptoBulkEntries r
def uptoBulkEntry {H : Type} : Lit × DataW H → Nat
  | (.string bytes, d) => bytes.length + uptoBulk d + 1
  | (_, d) => uptoBulk d + 1
 end
def uptoSmall : (H : Type) → List (DataW H) → Bool := fun _ ds => decide (uptoBulkAll ds ≤ 1048576)
def OpenSpec.upto (s : _root_.Go.ChangeSpec) : _root_.Go.OpenSpec := { _root_.Go.OpenSpec.ofChange s with cond := some uptoSmall }

/-- 'laws.FnExactNamedBraid', WHERE WHAT IT READS IS OF BULK AT MOST 1048576: true; the input reads as it did. -/
def fnExactNamedBraidUptoRow : OpenClaim := { program := "ythkpdodhkgdiaaa", sum := "bc878970b08c0a0052f9d833a845110e836f3094312a39b123abe3c003343064", func := "loop.example/g01119/laws.FnExactNamedBraid", spec := "fnExactNamedBraid", unfollowed := true, recurses := true, apart := false, narrowed := true }
def FnExactNamedBraidUptoSaid : Prop := fnExactNamedBraidUptoRow.holds Try.pinned (OpenSpec.upto fnExactNamedBraidSpec)

/-- 'laws.FnExactCountRackTables', WHERE WHAT IT READS IS OF BULK AT MOST 1048576: true; the input reads as it did. -/
def fnExactCountRackTablesUptoRow : OpenClaim := { program := "ythkpdodhkgdiaaa", sum := "bc878970b08c0a0052f9d833a845110e836f3094312a39b123abe3c003343064", func := "loop.example/g01119/laws.FnExactCountRackTables", spec := "fnExactCountRackTables", unfollowed := true, recurses := true, apart := false, narrowed := true }
def FnExactCountRackTablesUptoSaid : Prop := fnExactCountRackTablesUptoRow.holds Try.pinned (OpenSpec.upto fnExactCountRackTablesSpec)

/-- 'laws.FnExactNewDesk', WHERE WHAT IT READS IS OF BULK AT MOST 1048576: true; the input reads as it did. -/
def fnExactNewDeskUptoRow : OpenClaim := { program := "ythkpdodhkgdiaaa", sum := "bc878970b08c0a0052f9d833a845110e836f3094312a39b123abe3c003343064", func := "loop.example/g01119/laws.FnExactNewDesk", spec := "fnExactNewDesk", unfollowed := true, recurses := true, apart := false, narrowed := true }
def FnExactNewDeskUptoSaid : Prop := fnExactNewDeskUptoRow.holds Try.pinned (OpenSpec.upto fnExactNewDeskSpec)

/-- 'laws.FnExactComponentsOf', WHERE WHAT IT READS IS OF BULK AT MOST 1048576: true; the input reads as it did. -/
def fnExactComponentsOfUptoRow : OpenClaim := { program := "ythkpdodhkgdiaaa", sum := "bc878970b08c0a0052f9d833a845110e836f3094312a39b123abe3c003343064", func := "loop.example/g01119/laws.FnExactComponentsOf", spec := "fnExactComponentsOf", unfollowed := true, recurses := true, apart := false, narrowed := true }
def FnExactComponentsOfUptoSaid : Prop := fnExactComponentsOfUptoRow.holds Try.pinned (OpenSpec.upto fnExactComponentsOfSpec)

/-- 'laws.FnExactCountCycleTables', WHERE WHAT IT READS IS OF BULK AT MOST 1048576: true; the input reads as it did. -/
def fnExactCountCycleTablesUptoRow : OpenClaim := { program := "ythkpdodhkgdiaaa", sum := "bc878970b08c0a0052f9d833a845110e836f3094312a39b123abe3c003343064", func := "loop.example/g01119/laws.FnExactCountCycleTables", spec := "fnExactCountCycleTables", unfollowed := true, recurses := true, apart := false, narrowed := true }
def FnExactCountCycleTablesUptoSaid : Prop := fnExactCountCycleTablesUptoRow.holds Try.pinned (OpenSpec.upto fnExactCountCycleTablesSpec)

/-- 'laws.FnExactBoundOf', WHERE WHAT IT READS IS OF BULK AT MOST 1048576: true; the input reads as it did. -/
def fnExactBoundOfUptoRow : OpenClaim := { program := "ythkpdodhkgdiaaa", sum := "bc878970b08c0a0052f9d833a845110e836f3094312a39b123abe3c003343064", func := "loop.example/g01119/laws.FnExactBoundOf", spec := "fnExactBoundOf", unfollowed := true, recurses := true, apart := false, narrowed := true }
def FnExactBoundOfUptoSaid : Prop := fnExactBoundOfUptoRow.holds Try.pinned (OpenSpec.upto fnExactBoundOfSpec)

/-- 'laws.FnExactCountSolutionTables', WHERE WHAT IT READS IS OF BULK AT MOST 1048576: true; the input reads as it did. -/
def fnExactCountSolutionTablesUptoRow : OpenClaim := { program := "ythkpdodhkgdiaaa", sum := "bc878970b08c0a0052f9d833a845110e836f3094312a39b123abe3c003343064", func := "loop.example/g01119/laws.FnExactCountSolutionTables", spec := "fnExactCountSolutionTables", unfollowed := true, recurses := true, apart := false, narrowed := true }
def FnExactCountSolutionTablesUptoSaid : Prop := fnExactCountSolutionTablesUptoRow.holds Try.pinned (OpenSpec.upto fnExactCountSolutionTablesSpec)

/-- 'laws.FnTori', WHERE WHAT IT READS IS OF BULK AT MOST 1048576: true; the input reads as it did. -/
def fnToriUptoRow : OpenClaim := { program := "ythkpdodhkgdiaaa", sum := "bc878970b08c0a0052f9d833a845110e836f3094312a39b123abe3c003343064", func := "loop.example/g01119/laws.FnTori", spec := "fnTori", unfollowed := true, recurses := true, apart := false, narrowed := true }
def FnToriUptoSaid : Prop := fnToriUptoRow.holds Try.pinned (OpenSpec.upto fnToriSpec)

/-- 'laws.FnExactLinkingNumbers', WHERE WHAT IT READS IS OF BULK AT MOST 1048576: true; the input reads as it did. -/
def fnExactLinkingNumbersUptoRow : OpenClaim := { program := "ythkpdodhkgdiaaa", sum := "bc878970b08c0a0052f9d833a845110e836f3094312a39b123abe3c003343064", func := "loop.example/g01119/laws.FnExactLinkingNumbers", spec := "fnExactLinkingNumbers", unfollowed := true, recurses := true, apart := false, narrowed := true }
def FnExactLinkingNumbersUptoSaid : Prop := fnExactLinkingNumbersUptoRow.holds Try.pinned (OpenSpec.upto fnExactLinkingNumbersSpec)

/-- 'laws.FnExactIsDesk', WHERE WHAT IT READS IS OF BULK AT MOST 1048576: true; the input reads as it did. -/
def fnExactIsDeskUptoRow : OpenClaim := { program := "ythkpdodhkgdiaaa", sum := "bc878970b08c0a0052f9d833a845110e836f3094312a39b123abe3c003343064", func := "loop.example/g01119/laws.FnExactIsDesk", spec := "fnExactIsDesk", unfollowed := true, recurses := true, apart := false, narrowed := true }
def FnExactIsDeskUptoSaid : Prop := fnExactIsDeskUptoRow.holds Try.pinned (OpenSpec.upto fnExactIsDeskSpec)

/-- 'laws.FnExactIsColouring', WHERE WHAT IT READS IS OF BULK AT MOST 1048576: true; the input reads as it did. -/
def fnExactIsColouringUptoRow : OpenClaim := { program := "ythkpdodhkgdiaaa", sum := "bc878970b08c0a0052f9d833a845110e836f3094312a39b123abe3c003343064", func := "loop.example/g01119/laws.FnExactIsColouring", spec := "fnExactIsColouring", unfollowed := true, recurses := true, apart := false, narrowed := true }
def FnExactIsColouringUptoSaid : Prop := fnExactIsColouringUptoRow.holds Try.pinned (OpenSpec.upto fnExactIsColouringSpec)

/-- 'laws.FnExactIsWeight', WHERE WHAT IT READS IS OF BULK AT MOST 1048576: true; the input reads as it did. -/
def fnExactIsWeightUptoRow : OpenClaim := { program := "ythkpdodhkgdiaaa", sum := "bc878970b08c0a0052f9d833a845110e836f3094312a39b123abe3c003343064", func := "loop.example/g01119/laws.FnExactIsWeight", spec := "fnExactIsWeight", unfollowed := true, recurses := true, apart := false, narrowed := true }
def FnExactIsWeightUptoSaid : Prop := fnExactIsWeightUptoRow.holds Try.pinned (OpenSpec.upto fnExactIsWeightSpec)

end Rows
end Go.Proofs.Ythkpdodhkgdiaaa
