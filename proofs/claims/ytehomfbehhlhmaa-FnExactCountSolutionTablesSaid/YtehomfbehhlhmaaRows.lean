/-
  No cell of these rows narrows 'for every input' (looked for: loops, veiled, ifaces, maps, wideKeys, modest, calm, conditions, laid).
  DERIVED. THE GIVEN ROWS OF THIS SEAT. 11 by the template 'for every input the law returns true; each argument reads behind the call as it read before'; 0 by the template 'total and deterministic' (their statements: YtehomfbehhlhmaaTotals.lean).
  GIVEN WITH THE SEED: the statements are not yours to turn. If you find one false, say at which input.
  Laid BY PROGRAM, IN A SANDBOX (cutbox-rows.mjs): the forced cells as the released guide's own fill.sh prints them over the translation a60ed5d09f977c31… (all of the seat's roots in one cut). By AI agents, Wed Nov 11 2026. No macro, syntax, notation, axiom, sorry.
-/
import Derived.Test.YtehomfbehhlhmaaChecked
import GoSem.Claim
import GoSem.ClaimJoined
import GoSem.ClaimMapViews
import Derived.JoinedTies
import Derived.KernelRfl
namespace Go.Proofs.Ytehomfbehhlhmaa
/- THE CELL 'sum', in the pinned program and in every row, IS THE sha256 OF THE DUMP (.gsa) THAT YtehomfbehhlhmaaProg.lean LOADS. Nothing in Lean hashes anything: it is a label: what it is worth is what the hold of that sum in a sandbox is worth. -/
noncomputable def Try.pinned : Pinned := { name := "ytehomfbehhlhmaa", sum := "a60ed5d09f977c31f07db41f3742b6c170aae63ec66e4f2aa0218376c415b64c", checked := Try.checked }
namespace Rows
def none {H : Type} : Left H := { results := [], args := [] }

/-- 'laws.FnExactNamedBraid': WHATEVER THE INPUT: true; the input reads as it did. -/
def fnExactNamedBraidSpec : ChangeSpec := { name := "fnExactNamedBraid", fn := fun _ => fun
  | [d] => { results := [.lit (.bool true)], args := [d] }
  | _ => none }
def fnExactNamedBraidRow : OpenClaim := { program := "ytehomfbehhlhmaa", sum := "a60ed5d09f977c31f07db41f3742b6c170aae63ec66e4f2aa0218376c415b64c", func := "loop.example/g01119/laws.FnExactNamedBraid", spec := "fnExactNamedBraid", unfollowed := true, recurses := true, apart := false }
def FnExactNamedBraidSaid : Prop := fnExactNamedBraidRow.holds Try.pinned (OpenSpec.ofChange fnExactNamedBraidSpec)

/-- ITS FALSE NEIGHBOUR: 'it returns false'. Refute it at one input. -/
def fnExactNamedBraidWrong : ChangeSpec := { name := "fnExactNamedBraid", fn := fun _ => fun
  | [d] => { results := [.lit (.bool false)], args := [d] }
  | _ => none }
def FnExactNamedBraidWrongFalsely : Prop := fnExactNamedBraidRow.holds Try.pinned (OpenSpec.ofChange fnExactNamedBraidWrong)

/-- 'laws.FnTori': WHATEVER THE INPUT: true; the input reads as it did. -/
def fnToriSpec : ChangeSpec := { name := "fnTori", fn := fun _ => fun
  | [d] => { results := [.lit (.bool true)], args := [d] }
  | _ => none }
def fnToriRow : OpenClaim := { program := "ytehomfbehhlhmaa", sum := "a60ed5d09f977c31f07db41f3742b6c170aae63ec66e4f2aa0218376c415b64c", func := "loop.example/g01119/laws.FnTori", spec := "fnTori", unfollowed := true, recurses := true, apart := false }
def FnToriSaid : Prop := fnToriRow.holds Try.pinned (OpenSpec.ofChange fnToriSpec)

/-- ITS FALSE NEIGHBOUR: 'it returns false'. Refute it at one input. -/
def fnToriWrong : ChangeSpec := { name := "fnTori", fn := fun _ => fun
  | [d] => { results := [.lit (.bool false)], args := [d] }
  | _ => none }
def FnToriWrongFalsely : Prop := fnToriRow.holds Try.pinned (OpenSpec.ofChange fnToriWrong)

/-- 'laws.FnExactCountRackTables': WHATEVER THE INPUT: true; the input reads as it did. -/
def fnExactCountRackTablesSpec : ChangeSpec := { name := "fnExactCountRackTables", fn := fun _ => fun
  | [d] => { results := [.lit (.bool true)], args := [d] }
  | _ => none }
def fnExactCountRackTablesRow : OpenClaim := { program := "ytehomfbehhlhmaa", sum := "a60ed5d09f977c31f07db41f3742b6c170aae63ec66e4f2aa0218376c415b64c", func := "loop.example/g01119/laws.FnExactCountRackTables", spec := "fnExactCountRackTables", unfollowed := true, recurses := true, apart := false }
def FnExactCountRackTablesSaid : Prop := fnExactCountRackTablesRow.holds Try.pinned (OpenSpec.ofChange fnExactCountRackTablesSpec)

/-- ITS FALSE NEIGHBOUR: 'it returns false'. Refute it at one input. -/
def fnExactCountRackTablesWrong : ChangeSpec := { name := "fnExactCountRackTables", fn := fun _ => fun
  | [d] => { results := [.lit (.bool false)], args := [d] }
  | _ => none }
def FnExactCountRackTablesWrongFalsely : Prop := fnExactCountRackTablesRow.holds Try.pinned (OpenSpec.ofChange fnExactCountRackTablesWrong)

/-- 'laws.FnExactCountCycleTables': WHATEVER THE INPUT: true; the input reads as it did. -/
def fnExactCountCycleTablesSpec : ChangeSpec := { name := "fnExactCountCycleTables", fn := fun _ => fun
  | [d] => { results := [.lit (.bool true)], args := [d] }
  | _ => none }
def fnExactCountCycleTablesRow : OpenClaim := { program := "ytehomfbehhlhmaa", sum := "a60ed5d09f977c31f07db41f3742b6c170aae63ec66e4f2aa0218376c415b64c", func := "loop.example/g01119/laws.FnExactCountCycleTables", spec := "fnExactCountCycleTables", unfollowed := true, recurses := true, apart := false }
def FnExactCountCycleTablesSaid : Prop := fnExactCountCycleTablesRow.holds Try.pinned (OpenSpec.ofChange fnExactCountCycleTablesSpec)

/-- ITS FALSE NEIGHBOUR: 'it returns false'. Refute it at one input. -/
def fnExactCountCycleTablesWrong : ChangeSpec := { name := "fnExactCountCycleTables", fn := fun _ => fun
  | [d] => { results := [.lit (.bool false)], args := [d] }
  | _ => none }
def FnExactCountCycleTablesWrongFalsely : Prop := fnExactCountCycleTablesRow.holds Try.pinned (OpenSpec.ofChange fnExactCountCycleTablesWrong)

/-- 'laws.FnExactCountSolutionTables': WHATEVER THE INPUT: true; the input reads as it did. -/
def fnExactCountSolutionTablesSpec : ChangeSpec := { name := "fnExactCountSolutionTables", fn := fun _ => fun
  | [d] => { results := [.lit (.bool true)], args := [d] }
  | _ => none }
def fnExactCountSolutionTablesRow : OpenClaim := { program := "ytehomfbehhlhmaa", sum := "a60ed5d09f977c31f07db41f3742b6c170aae63ec66e4f2aa0218376c415b64c", func := "loop.example/g01119/laws.FnExactCountSolutionTables", spec := "fnExactCountSolutionTables", unfollowed := true, recurses := true, apart := false }
def FnExactCountSolutionTablesSaid : Prop := fnExactCountSolutionTablesRow.holds Try.pinned (OpenSpec.ofChange fnExactCountSolutionTablesSpec)

/-- ITS FALSE NEIGHBOUR: 'it returns false'. Refute it at one input. -/
def fnExactCountSolutionTablesWrong : ChangeSpec := { name := "fnExactCountSolutionTables", fn := fun _ => fun
  | [d] => { results := [.lit (.bool false)], args := [d] }
  | _ => none }
def FnExactCountSolutionTablesWrongFalsely : Prop := fnExactCountSolutionTablesRow.holds Try.pinned (OpenSpec.ofChange fnExactCountSolutionTablesWrong)

/-- 'laws.FnClosures': WHATEVER THE INPUT: true; the input reads as it did. -/
def fnClosuresSpec : ChangeSpec := { name := "fnClosures", fn := fun _ => fun
  | [d] => { results := [.lit (.bool true)], args := [d] }
  | _ => none }
def fnClosuresRow : OpenClaim := { program := "ytehomfbehhlhmaa", sum := "a60ed5d09f977c31f07db41f3742b6c170aae63ec66e4f2aa0218376c415b64c", func := "loop.example/g01119/laws.FnClosures", spec := "fnClosures", unfollowed := true, recurses := true, apart := false }
def FnClosuresSaid : Prop := fnClosuresRow.holds Try.pinned (OpenSpec.ofChange fnClosuresSpec)

/-- ITS FALSE NEIGHBOUR: 'it returns false'. Refute it at one input. -/
def fnClosuresWrong : ChangeSpec := { name := "fnClosures", fn := fun _ => fun
  | [d] => { results := [.lit (.bool false)], args := [d] }
  | _ => none }
def FnClosuresWrongFalsely : Prop := fnClosuresRow.holds Try.pinned (OpenSpec.ofChange fnClosuresWrong)

/-- 'laws.FnExactAllRacks': WHATEVER THE INPUT: true; the input reads as it did. -/
def fnExactAllRacksSpec : ChangeSpec := { name := "fnExactAllRacks", fn := fun _ => fun
  | [d] => { results := [.lit (.bool true)], args := [d] }
  | _ => none }
def fnExactAllRacksRow : OpenClaim := { program := "ytehomfbehhlhmaa", sum := "a60ed5d09f977c31f07db41f3742b6c170aae63ec66e4f2aa0218376c415b64c", func := "loop.example/g01119/laws.FnExactAllRacks", spec := "fnExactAllRacks", unfollowed := true, recurses := true, apart := false }
def FnExactAllRacksSaid : Prop := fnExactAllRacksRow.holds Try.pinned (OpenSpec.ofChange fnExactAllRacksSpec)

/-- ITS FALSE NEIGHBOUR: 'it returns false'. Refute it at one input. -/
def fnExactAllRacksWrong : ChangeSpec := { name := "fnExactAllRacks", fn := fun _ => fun
  | [d] => { results := [.lit (.bool false)], args := [d] }
  | _ => none }
def FnExactAllRacksWrongFalsely : Prop := fnExactAllRacksRow.holds Try.pinned (OpenSpec.ofChange fnExactAllRacksWrong)

/-- 'laws.FnExactAllQuandles': WHATEVER THE INPUT: true; the input reads as it did. -/
def fnExactAllQuandlesSpec : ChangeSpec := { name := "fnExactAllQuandles", fn := fun _ => fun
  | [d] => { results := [.lit (.bool true)], args := [d] }
  | _ => none }
def fnExactAllQuandlesRow : OpenClaim := { program := "ytehomfbehhlhmaa", sum := "a60ed5d09f977c31f07db41f3742b6c170aae63ec66e4f2aa0218376c415b64c", func := "loop.example/g01119/laws.FnExactAllQuandles", spec := "fnExactAllQuandles", unfollowed := true, recurses := true, apart := false }
def FnExactAllQuandlesSaid : Prop := fnExactAllQuandlesRow.holds Try.pinned (OpenSpec.ofChange fnExactAllQuandlesSpec)

/-- ITS FALSE NEIGHBOUR: 'it returns false'. Refute it at one input. -/
def fnExactAllQuandlesWrong : ChangeSpec := { name := "fnExactAllQuandles", fn := fun _ => fun
  | [d] => { results := [.lit (.bool false)], args := [d] }
  | _ => none }
def FnExactAllQuandlesWrongFalsely : Prop := fnExactAllQuandlesRow.holds Try.pinned (OpenSpec.ofChange fnExactAllQuandlesWrong)

/-- 'laws.FnExactAllCycleSets': WHATEVER THE INPUT: true; the input reads as it did. -/
def fnExactAllCycleSetsSpec : ChangeSpec := { name := "fnExactAllCycleSets", fn := fun _ => fun
  | [d] => { results := [.lit (.bool true)], args := [d] }
  | _ => none }
def fnExactAllCycleSetsRow : OpenClaim := { program := "ytehomfbehhlhmaa", sum := "a60ed5d09f977c31f07db41f3742b6c170aae63ec66e4f2aa0218376c415b64c", func := "loop.example/g01119/laws.FnExactAllCycleSets", spec := "fnExactAllCycleSets", unfollowed := true, recurses := true, apart := false }
def FnExactAllCycleSetsSaid : Prop := fnExactAllCycleSetsRow.holds Try.pinned (OpenSpec.ofChange fnExactAllCycleSetsSpec)

/-- ITS FALSE NEIGHBOUR: 'it returns false'. Refute it at one input. -/
def fnExactAllCycleSetsWrong : ChangeSpec := { name := "fnExactAllCycleSets", fn := fun _ => fun
  | [d] => { results := [.lit (.bool false)], args := [d] }
  | _ => none }
def FnExactAllCycleSetsWrongFalsely : Prop := fnExactAllCycleSetsRow.holds Try.pinned (OpenSpec.ofChange fnExactAllCycleSetsWrong)

/-- 'laws.FnExactPlaceOfRack': WHATEVER THE INPUT: true; the input reads as it did. -/
def fnExactPlaceOfRackSpec : ChangeSpec := { name := "fnExactPlaceOfRack", fn := fun _ => fun
  | [d] => { results := [.lit (.bool true)], args := [d] }
  | _ => none }
def fnExactPlaceOfRackRow : OpenClaim := { program := "ytehomfbehhlhmaa", sum := "a60ed5d09f977c31f07db41f3742b6c170aae63ec66e4f2aa0218376c415b64c", func := "loop.example/g01119/laws.FnExactPlaceOfRack", spec := "fnExactPlaceOfRack", unfollowed := true, recurses := true, apart := false }
def FnExactPlaceOfRackSaid : Prop := fnExactPlaceOfRackRow.holds Try.pinned (OpenSpec.ofChange fnExactPlaceOfRackSpec)

/-- ITS FALSE NEIGHBOUR: 'it returns false'. Refute it at one input. -/
def fnExactPlaceOfRackWrong : ChangeSpec := { name := "fnExactPlaceOfRack", fn := fun _ => fun
  | [d] => { results := [.lit (.bool false)], args := [d] }
  | _ => none }
def FnExactPlaceOfRackWrongFalsely : Prop := fnExactPlaceOfRackRow.holds Try.pinned (OpenSpec.ofChange fnExactPlaceOfRackWrong)

/-- 'laws.FnExactAllSolutions': WHATEVER THE INPUT: true; the input reads as it did. -/
def fnExactAllSolutionsSpec : ChangeSpec := { name := "fnExactAllSolutions", fn := fun _ => fun
  | [d] => { results := [.lit (.bool true)], args := [d] }
  | _ => none }
def fnExactAllSolutionsRow : OpenClaim := { program := "ytehomfbehhlhmaa", sum := "a60ed5d09f977c31f07db41f3742b6c170aae63ec66e4f2aa0218376c415b64c", func := "loop.example/g01119/laws.FnExactAllSolutions", spec := "fnExactAllSolutions", unfollowed := true, recurses := true, apart := false }
def FnExactAllSolutionsSaid : Prop := fnExactAllSolutionsRow.holds Try.pinned (OpenSpec.ofChange fnExactAllSolutionsSpec)

/-- ITS FALSE NEIGHBOUR: 'it returns false'. Refute it at one input. -/
def fnExactAllSolutionsWrong : ChangeSpec := { name := "fnExactAllSolutions", fn := fun _ => fun
  | [d] => { results := [.lit (.bool false)], args := [d] }
  | _ => none }
def FnExactAllSolutionsWrongFalsely : Prop := fnExactAllSolutionsRow.holds Try.pinned (OpenSpec.ofChange fnExactAllSolutionsWrong)

/- THE SECOND FORM. 'bulk': how many values and letters a reading holds, each counted each time it is reached (what is shared counts as often as it is met; a slice's spare places count too). A statement '..UptoSaid' is the law's where the arguments, and the package variables that the reading takes, are together of bulk at most 1048576: NARROWER than '..Said'. Prove '..Said' where nothing that the law and all that it calls make is longer than what came in: it says more and counts as full. Else prove '..UptoSaid'. A law counts once. -/
mutual
def uptoBulk {H : Type} : DataW H → Nat
  | .lit (.string bytes) => bytes.length + 1
  | .lit _ => 1
  | .nil => 1
  | .ptr d => uptoBulk d + 1
  | .slice elems spare => uptoBulkAll elems + uptoBulkAll spare + 1
  | .agg parts => uptoBulkAll parts + 1
  | .iface _ d => uptoBulk d + 1
  | .map entries => uptoBulkEntries entries + 1
  | .held _ => 1
def uptoBulkAll {H : Type} : List (DataW H) → Nat
  | [] => 0
  | d :: r => uptoBulk d + uptoBulkAll r
def uptoBulkEntries {H : Type} : List (Lit × DataW H) → Nat
  | [] => 0
  | x :: r => uptoBulkEntry x + uptoBulkEntries r
def uptoBulkEntry {H : Type} : Lit × DataW H → Nat
  | (.string bytes, d) => bytes.length + uptoBulk d + 1
  | (_, d) => uptoBulk d + 1
 end
def uptoSmall : (H : Type) → List (DataW H) → Bool := fun _ ds => decide (uptoBulkAll ds ≤ 1048576)
def OpenSpec.upto (s : _root_.Go.ChangeSpec) : _root_.Go.OpenSpec := { _root_.Go.OpenSpec.ofChange s with cond := some uptoSmall }

/-- 'laws.FnExactNamedBraid', WHERE WHAT IT READS IS OF BULK AT MOST 1048576: true; the input reads as it did. -/
def fnExactNamedBraidUptoRow : OpenClaim := { program := "ytehomfbehhlhmaa", sum := "a60ed5d09f977c31f07db41f3742b6c170aae63ec66e4f2aa0218376c415b64c", func := "loop.example/g01119/laws.FnExactNamedBraid", spec := "fnExactNamedBraid", unfollowed := true, recurses := true, apart := false, narrowed := true }
def FnExactNamedBraidUptoSaid : Prop := fnExactNamedBraidUptoRow.holds Try.pinned (OpenSpec.upto fnExactNamedBraidSpec)

/-- 'laws.FnTori', WHERE WHAT IT READS IS OF BULK AT MOST 1048576: true; the input reads as it did. -/
def fnToriUptoRow : OpenClaim := { program := "ytehomfbehhlhmaa", sum := "a60ed5d09f977c31f07db41f3742b6c170aae63ec66e4f2aa0218376c415b64c", func := "loop.example/g01119/laws.FnTori", spec := "fnTori", unfollowed := true, recurses := true, apart := false, narrowed := true }
def FnToriUptoSaid : Prop := fnToriUptoRow.holds Try.pinned (OpenSpec.upto fnToriSpec)

/-- 'laws.FnExactCountRackTables', WHERE WHAT IT READS IS OF BULK AT MOST 1048576: true; the input reads as it did. -/
def fnExactCountRackTablesUptoRow : OpenClaim := { program := "ytehomfbehhlhmaa", sum := "a60ed5d09f977c31f07db41f3742b6c170aae63ec66e4f2aa0218376c415b64c", func := "loop.example/g01119/laws.FnExactCountRackTables", spec := "fnExactCountRackTables", unfollowed := true, recurses := true, apart := false, narrowed := true }
def FnExactCountRackTablesUptoSaid : Prop := fnExactCountRackTablesUptoRow.holds Try.pinned (OpenSpec.upto fnExactCountRackTablesSpec)

/-- 'laws.FnExactCountCycleTables', WHERE WHAT IT READS IS OF BULK AT MOST 1048576: true; the input reads as it did. -/
def fnExactCountCycleTablesUptoRow : OpenClaim := { program := "ytehomfbehhlhmaa", sum := "a60ed5d09f977c31f07db41f3742b6c170aae63ec66e4f2aa0218376c415b64c", func := "loop.example/g01119/laws.FnExactCountCycleTables", spec := "fnExactCountCycleTables", unfollowed := true, recurses := true, apart := false, narrowed := true }
def FnExactCountCycleTablesUptoSaid : Prop := fnExactCountCycleTablesUptoRow.holds Try.pinned (OpenSpec.upto fnExactCountCycleTablesSpec)

/-- 'laws.FnExactCountSolutionTables', WHERE WHAT IT READS IS OF BULK AT MOST 1048576: true; the input reads as it did. -/
def fnExactCountSolutionTablesUptoRow : OpenClaim := { program := "ytehomfbehhlhmaa", sum := "a60ed5d09f977c31f07db41f3742b6c170aae63ec66e4f2aa0218376c415b64c", func := "loop.example/g01119/laws.FnExactCountSolutionTables", spec := "fnExactCountSolutionTables", unfollowed := true, recurses := true, apart := false, narrowed := true }
def FnExactCountSolutionTablesUptoSaid : Prop := fnExactCountSolutionTablesUptoRow.holds Try.pinned (OpenSpec.upto fnExactCountSolutionTablesSpec)

/-- 'laws.FnClosures', WHERE WHAT IT READS IS OF BULK AT MOST 1048576: true; the input reads as it did. -/
def fnClosuresUptoRow : OpenClaim := { program := "ytehomfbehhlhmaa", sum := "a60ed5d09f977c31f07db41f3742b6c170aae63ec66e4f2aa0218376c415b64c", func := "loop.example/g01119/laws.FnClosures", spec := "fnClosures", unfollowed := true, recurses := true, apart := false, narrowed := true }
def FnClosuresUptoSaid : Prop := fnClosuresUptoRow.holds Try.pinned (OpenSpec.upto fnClosuresSpec)

/-- 'laws.FnExactAllRacks', WHERE WHAT IT READS IS OF BULK AT MOST 1048576: true; the input reads as it did. -/
def fnExactAllRacksUptoRow : OpenClaim := { program := "ytehomfbehhlhmaa", sum := "a60ed5d09f977c31f07db41f3742b6c170aae63ec66e4f2aa0218376c415b64c", func := "loop.example/g01119/laws.FnExactAllRacks", spec := "fnExactAllRacks", unfollowed := true, recurses := true, apart := false, narrowed := true }
def FnExactAllRacksUptoSaid : Prop := fnExactAllRacksUptoRow.holds Try.pinned (OpenSpec.upto fnExactAllRacksSpec)

/-- 'laws.FnExactAllQuandles', WHERE WHAT IT READS IS OF BULK AT MOST 1048576: true; the input reads as it did. -/
def fnExactAllQuandlesUptoRow : OpenClaim := { program := "ytehomfbehhlhmaa", sum := "a60ed5d09f977c31f07db41f3742b6c170aae63ec66e4f2aa0218376c415b64c", func := "loop.example/g01119/laws.FnExactAllQuandles", spec := "fnExactAllQuandles", unfollowed := true, recurses := true, apart := false, narrowed := true }
def FnExactAllQuandlesUptoSaid : Prop := fnExactAllQuandlesUptoRow.holds Try.pinned (OpenSpec.upto fnExactAllQuandlesSpec)

/-- 'laws.FnExactAllCycleSets', WHERE WHAT IT READS IS OF BULK AT MOST 1048576: true; the input reads as it did. -/
def fnExactAllCycleSetsUptoRow : OpenClaim := { program := "ytehomfbehhlhmaa", sum := "a60ed5d09f977c31f07db41f3742b6c170aae63ec66e4f2aa0218376c415b64c", func := "loop.example/g01119/laws.FnExactAllCycleSets", spec := "fnExactAllCycleSets", unfollowed := true, recurses := true, apart := false, narrowed := true }
def FnExactAllCycleSetsUptoSaid : Prop := fnExactAllCycleSetsUptoRow.holds Try.pinned (OpenSpec.upto fnExactAllCycleSetsSpec)

/-- 'laws.FnExactPlaceOfRack', WHERE WHAT IT READS IS OF BULK AT MOST 1048576: true; the input reads as it did. -/
def fnExactPlaceOfRackUptoRow : OpenClaim := { program := "ytehomfbehhlhmaa", sum := "a60ed5d09f977c31f07db41f3742b6c170aae63ec66e4f2aa0218376c415b64c", func := "loop.example/g01119/laws.FnExactPlaceOfRack", spec := "fnExactPlaceOfRack", unfollowed := true, recurses := true, apart := false, narrowed := true }
def FnExactPlaceOfRackUptoSaid : Prop := fnExactPlaceOfRackUptoRow.holds Try.pinned (OpenSpec.upto fnExactPlaceOfRackSpec)

/-- 'laws.FnExactAllSolutions', WHERE WHAT IT READS IS OF BULK AT MOST 1048576: true; the input reads as it did. -/
def fnExactAllSolutionsUptoRow : OpenClaim := { program := "ytehomfbehhlhmaa", sum := "a60ed5d09f977c31f07db41f3742b6c170aae63ec66e4f2aa0218376c415b64c", func := "loop.example/g01119/laws.FnExactAllSolutions", spec := "fnExactAllSolutions", unfollowed := true, recurses := true, apart := false, narrowed := true }
def FnExactAllSolutionsUptoSaid : Prop := fnExactAllSolutionsUptoRow.holds Try.pinned (OpenSpec.upto fnExactAllSolutionsSpec)

end Rows
end Go.Proofs.Ytehomfbehhlhmaa
