/-
  No cell of these rows narrows 'for every input' (looked for: loops, veiled, ifaces, maps, wideKeys, modest, calm, conditions, laid).
  DERIVED. THE GIVEN ROWS OF THIS SEAT. 10 by the template 'for every input the law returns true; each argument reads behind the call as it read before'; 0 by the template 'total and deterministic' (their statements: YtjhdbgohdmdpeaaGreatTotals.lean).
  GIVEN WITH THE SEED: the statements are not yours to turn. If you find one false, say at which input.
  Laid BY PROGRAM, IN A SANDBOX (cutbox-rows.mjs): the forced cells as the released guide's own fill.sh prints them over the translation 80a56c8dff87516d… (all of the seat's roots in one cut). By AI agents, Wed Nov 11 2026. No macro, syntax, notation, axiom, sorry.
-/
import Derived.Test.YtjhdbgohdmdpeaaGreatChecked
import GoSem.Claim
import GoSem.ClaimJoined
import GoSem.ClaimMapViews
import Derived.JoinedTies
import Derived.KernelRfl
namespace Go.Proofs.YtjhdbgohdmdpeaaGreat
/- THE CELL 'sum', in the pinned program and in every row, IS THE sha256 OF THE DUMP (.gsa) THAT YtjhdbgohdmdpeaaGreatProg.lean LOADS. Nothing in Lean hashes anything: it is a label: what it is worth is what the hold of that sum in a sandbox is worth. -/
noncomputable def Tryz.pinned : Pinned := { name := "ytjhdbgohdmdpeaagreat", sum := "80a56c8dff87516dc87f191561b7cde8d380e080317e12aacc7b3688d6ac8ad1", checked := Tryz.checked }
namespace Rows
def none {H : Type} : Left H := { results := [], args := [] }

/-- 'laws.FnBraidActions': WHATEVER THE INPUT: true; the input reads as it did. -/
def fnBraidActionsSpec : ChangeSpec := { name := "fnBraidActions", fn := fun _ => fun
  | [d] => { results := [.lit (.bool true)], args := [d] }
  | _ => none }
def fnBraidActionsRow : OpenClaim := { program := "ytjhdbgohdmdpeaagreat", sum := "80a56c8dff87516dc87f191561b7cde8d380e080317e12aacc7b3688d6ac8ad1", func := "loop.example/g01119/laws.FnBraidActions", spec := "fnBraidActions", unfollowed := true, recurses := true, apart := false }
def FnBraidActionsSaid : Prop := fnBraidActionsRow.holds Tryz.pinned (OpenSpec.ofChange fnBraidActionsSpec)

/-- ITS FALSE NEIGHBOUR: 'it returns false'. Refute it at one input. -/
def fnBraidActionsWrong : ChangeSpec := { name := "fnBraidActions", fn := fun _ => fun
  | [d] => { results := [.lit (.bool false)], args := [d] }
  | _ => none }
def FnBraidActionsWrongFalsely : Prop := fnBraidActionsRow.holds Tryz.pinned (OpenSpec.ofChange fnBraidActionsWrong)

/-- 'laws.FnColouringsCarried': WHATEVER THE INPUT: true; the input reads as it did. -/
def fnColouringsCarriedSpec : ChangeSpec := { name := "fnColouringsCarried", fn := fun _ => fun
  | [d] => { results := [.lit (.bool true)], args := [d] }
  | _ => none }
def fnColouringsCarriedRow : OpenClaim := { program := "ytjhdbgohdmdpeaagreat", sum := "80a56c8dff87516dc87f191561b7cde8d380e080317e12aacc7b3688d6ac8ad1", func := "loop.example/g01119/laws.FnColouringsCarried", spec := "fnColouringsCarried", unfollowed := true, recurses := true, apart := false }
def FnColouringsCarriedSaid : Prop := fnColouringsCarriedRow.holds Tryz.pinned (OpenSpec.ofChange fnColouringsCarriedSpec)

/-- ITS FALSE NEIGHBOUR: 'it returns false'. Refute it at one input. -/
def fnColouringsCarriedWrong : ChangeSpec := { name := "fnColouringsCarried", fn := fun _ => fun
  | [d] => { results := [.lit (.bool false)], args := [d] }
  | _ => none }
def FnColouringsCarriedWrongFalsely : Prop := fnColouringsCarriedRow.holds Tryz.pinned (OpenSpec.ofChange fnColouringsCarriedWrong)

/-- 'laws.FnColourings': WHATEVER THE INPUT: true; the input reads as it did. -/
def fnColouringsSpec : ChangeSpec := { name := "fnColourings", fn := fun _ => fun
  | [d] => { results := [.lit (.bool true)], args := [d] }
  | _ => none }
def fnColouringsRow : OpenClaim := { program := "ytjhdbgohdmdpeaagreat", sum := "80a56c8dff87516dc87f191561b7cde8d380e080317e12aacc7b3688d6ac8ad1", func := "loop.example/g01119/laws.FnColourings", spec := "fnColourings", unfollowed := true, recurses := true, apart := false }
def FnColouringsSaid : Prop := fnColouringsRow.holds Tryz.pinned (OpenSpec.ofChange fnColouringsSpec)

/-- ITS FALSE NEIGHBOUR: 'it returns false'. Refute it at one input. -/
def fnColouringsWrong : ChangeSpec := { name := "fnColourings", fn := fun _ => fun
  | [d] => { results := [.lit (.bool false)], args := [d] }
  | _ => none }
def FnColouringsWrongFalsely : Prop := fnColouringsRow.holds Tryz.pinned (OpenSpec.ofChange fnColouringsWrong)

/-- 'laws.FnBraids': WHATEVER THE INPUT: true; the input reads as it did. -/
def fnBraidsSpec : ChangeSpec := { name := "fnBraids", fn := fun _ => fun
  | [d] => { results := [.lit (.bool true)], args := [d] }
  | _ => none }
def fnBraidsRow : OpenClaim := { program := "ytjhdbgohdmdpeaagreat", sum := "80a56c8dff87516dc87f191561b7cde8d380e080317e12aacc7b3688d6ac8ad1", func := "loop.example/g01119/laws.FnBraids", spec := "fnBraids", unfollowed := true, recurses := true, apart := false }
def FnBraidsSaid : Prop := fnBraidsRow.holds Tryz.pinned (OpenSpec.ofChange fnBraidsSpec)

/-- ITS FALSE NEIGHBOUR: 'it returns false'. Refute it at one input. -/
def fnBraidsWrong : ChangeSpec := { name := "fnBraids", fn := fun _ => fun
  | [d] => { results := [.lit (.bool false)], args := [d] }
  | _ => none }
def FnBraidsWrongFalsely : Prop := fnBraidsRow.holds Tryz.pinned (OpenSpec.ofChange fnBraidsWrong)

/-- 'laws.FnLinkingSums': WHATEVER THE INPUT: true; the input reads as it did. -/
def fnLinkingSumsSpec : ChangeSpec := { name := "fnLinkingSums", fn := fun _ => fun
  | [d] => { results := [.lit (.bool true)], args := [d] }
  | _ => none }
def fnLinkingSumsRow : OpenClaim := { program := "ytjhdbgohdmdpeaagreat", sum := "80a56c8dff87516dc87f191561b7cde8d380e080317e12aacc7b3688d6ac8ad1", func := "loop.example/g01119/laws.FnLinkingSums", spec := "fnLinkingSums", unfollowed := true, recurses := true, apart := false }
def FnLinkingSumsSaid : Prop := fnLinkingSumsRow.holds Tryz.pinned (OpenSpec.ofChange fnLinkingSumsSpec)

/-- ITS FALSE NEIGHBOUR: 'it returns false'. Refute it at one input. -/
def fnLinkingSumsWrong : ChangeSpec := { name := "fnLinkingSums", fn := fun _ => fun
  | [d] => { results := [.lit (.bool false)], args := [d] }
  | _ => none }
def FnLinkingSumsWrongFalsely : Prop := fnLinkingSumsRow.holds Tryz.pinned (OpenSpec.ofChange fnLinkingSumsWrong)

/-- 'laws.FnBraidWeights': WHATEVER THE INPUT: true; the input reads as it did. -/
def fnBraidWeightsSpec : ChangeSpec := { name := "fnBraidWeights", fn := fun _ => fun
  | [d] => { results := [.lit (.bool true)], args := [d] }
  | _ => none }
def fnBraidWeightsRow : OpenClaim := { program := "ytjhdbgohdmdpeaagreat", sum := "80a56c8dff87516dc87f191561b7cde8d380e080317e12aacc7b3688d6ac8ad1", func := "loop.example/g01119/laws.FnBraidWeights", spec := "fnBraidWeights", unfollowed := true, recurses := true, apart := false }
def FnBraidWeightsSaid : Prop := fnBraidWeightsRow.holds Tryz.pinned (OpenSpec.ofChange fnBraidWeightsSpec)

/-- ITS FALSE NEIGHBOUR: 'it returns false'. Refute it at one input. -/
def fnBraidWeightsWrong : ChangeSpec := { name := "fnBraidWeights", fn := fun _ => fun
  | [d] => { results := [.lit (.bool false)], args := [d] }
  | _ => none }
def FnBraidWeightsWrongFalsely : Prop := fnBraidWeightsRow.holds Tryz.pinned (OpenSpec.ofChange fnBraidWeightsWrong)

/-- 'laws.FnWeightBases': WHATEVER THE INPUT: true; the input reads as it did. -/
def fnWeightBasesSpec : ChangeSpec := { name := "fnWeightBases", fn := fun _ => fun
  | [d] => { results := [.lit (.bool true)], args := [d] }
  | _ => none }
def fnWeightBasesRow : OpenClaim := { program := "ytjhdbgohdmdpeaagreat", sum := "80a56c8dff87516dc87f191561b7cde8d380e080317e12aacc7b3688d6ac8ad1", func := "loop.example/g01119/laws.FnWeightBases", spec := "fnWeightBases", unfollowed := true, recurses := true, apart := false }
def FnWeightBasesSaid : Prop := fnWeightBasesRow.holds Tryz.pinned (OpenSpec.ofChange fnWeightBasesSpec)

/-- ITS FALSE NEIGHBOUR: 'it returns false'. Refute it at one input. -/
def fnWeightBasesWrong : ChangeSpec := { name := "fnWeightBases", fn := fun _ => fun
  | [d] => { results := [.lit (.bool false)], args := [d] }
  | _ => none }
def FnWeightBasesWrongFalsely : Prop := fnWeightBasesRow.holds Tryz.pinned (OpenSpec.ofChange fnWeightBasesWrong)

/-- 'laws.FnQuandleSums': WHATEVER THE INPUT: true; the input reads as it did. -/
def fnQuandleSumsSpec : ChangeSpec := { name := "fnQuandleSums", fn := fun _ => fun
  | [d] => { results := [.lit (.bool true)], args := [d] }
  | _ => none }
def fnQuandleSumsRow : OpenClaim := { program := "ytjhdbgohdmdpeaagreat", sum := "80a56c8dff87516dc87f191561b7cde8d380e080317e12aacc7b3688d6ac8ad1", func := "loop.example/g01119/laws.FnQuandleSums", spec := "fnQuandleSums", unfollowed := true, recurses := true, apart := false }
def FnQuandleSumsSaid : Prop := fnQuandleSumsRow.holds Tryz.pinned (OpenSpec.ofChange fnQuandleSumsSpec)

/-- ITS FALSE NEIGHBOUR: 'it returns false'. Refute it at one input. -/
def fnQuandleSumsWrong : ChangeSpec := { name := "fnQuandleSums", fn := fun _ => fun
  | [d] => { results := [.lit (.bool false)], args := [d] }
  | _ => none }
def FnQuandleSumsWrongFalsely : Prop := fnQuandleSumsRow.holds Tryz.pinned (OpenSpec.ofChange fnQuandleSumsWrong)

/-- 'laws.FnStateSums': WHATEVER THE INPUT: true; the input reads as it did. -/
def fnStateSumsSpec : ChangeSpec := { name := "fnStateSums", fn := fun _ => fun
  | [d] => { results := [.lit (.bool true)], args := [d] }
  | _ => none }
def fnStateSumsRow : OpenClaim := { program := "ytjhdbgohdmdpeaagreat", sum := "80a56c8dff87516dc87f191561b7cde8d380e080317e12aacc7b3688d6ac8ad1", func := "loop.example/g01119/laws.FnStateSums", spec := "fnStateSums", unfollowed := true, recurses := true, apart := false }
def FnStateSumsSaid : Prop := fnStateSumsRow.holds Tryz.pinned (OpenSpec.ofChange fnStateSumsSpec)

/-- ITS FALSE NEIGHBOUR: 'it returns false'. Refute it at one input. -/
def fnStateSumsWrong : ChangeSpec := { name := "fnStateSums", fn := fun _ => fun
  | [d] => { results := [.lit (.bool false)], args := [d] }
  | _ => none }
def FnStateSumsWrongFalsely : Prop := fnStateSumsRow.holds Tryz.pinned (OpenSpec.ofChange fnStateSumsWrong)

/-- 'laws.FnWeights': WHATEVER THE INPUT: true; the input reads as it did. -/
def fnWeightsSpec : ChangeSpec := { name := "fnWeights", fn := fun _ => fun
  | [d] => { results := [.lit (.bool true)], args := [d] }
  | _ => none }
def fnWeightsRow : OpenClaim := { program := "ytjhdbgohdmdpeaagreat", sum := "80a56c8dff87516dc87f191561b7cde8d380e080317e12aacc7b3688d6ac8ad1", func := "loop.example/g01119/laws.FnWeights", spec := "fnWeights", unfollowed := true, recurses := true, apart := false }
def FnWeightsSaid : Prop := fnWeightsRow.holds Tryz.pinned (OpenSpec.ofChange fnWeightsSpec)

/-- ITS FALSE NEIGHBOUR: 'it returns false'. Refute it at one input. -/
def fnWeightsWrong : ChangeSpec := { name := "fnWeights", fn := fun _ => fun
  | [d] => { results := [.lit (.bool false)], args := [d] }
  | _ => none }
def FnWeightsWrongFalsely : Prop := fnWeightsRow.holds Tryz.pinned (OpenSpec.ofChange fnWeightsWrong)

/- THE SECOND FORM. 'bulk': how many values and letters a reading holds, each counted each time it is reached (what is shared counts as often as it is met; a slice's spare places count too). A statement '..UptoSaid' is the law's where the arguments, and the package variables that the reading takes, are together of bulk at most 1048576: NARROWER than '..Said'. Prove '..Said' where nothing that the law and all that it calls make is longer than what came in: it says more and counts as full. Else prove '..UptoSaid'. A law counts once. -/
mutual
def uptoBulk {H : Type} : DataW H → Nat
  | .lit (.string bytes) => bytes.length + 1
  | .lit _ => 1
  | .nil => 1
  | .ptr d => uptoBulk d + 1
  | .slice elems spare => uptoBulkAll elems + uptoBulkAll spare + 1
  | .agg parts => uptoBulkAll parts + 1
  | .iface _ d => uptoBulk d + 1
  | .map entries => uptoBulkEntries entries + 1
  | .held _ => 1
def uptoBulkAll {H : Type} : List (DataW H) → Nat
  | [] => 0
  | d :: r => uptoBulk d + uptoBulkAll r
def uptoBulkEntries {H : Type} : List (Lit × DataW H) → Nat
  | [] => 0
  | x :: r => uptoBulkEntry x + uptoBulkEntries r
def uptoBulkEntry {H : Type} : Lit × DataW H → Nat
  | (.string bytes, d) => bytes.length + uptoBulk d + 1
  | (_, d) => uptoBulk d + 1
 end
def uptoSmall : (H : Type) → List (DataW H) → Bool := fun _ ds => decide (uptoBulkAll ds ≤ 1048576)
def OpenSpec.upto (s : _root_.Go.ChangeSpec) : _root_.Go.OpenSpec := { _root_.Go.OpenSpec.ofChange s with cond := some uptoSmall }

/-- 'laws.FnBraidActions', WHERE WHAT IT READS IS OF BULK AT MOST 1048576: true; the input reads as it did. -/
def fnBraidActionsUptoRow : OpenClaim := { program := "ytjhdbgohdmdpeaagreat", sum := "80a56c8dff87516dc87f191561b7cde8d380e080317e12aacc7b3688d6ac8ad1", func := "loop.example/g01119/laws.FnBraidActions", spec := "fnBraidActions", unfollowed := true, recurses := true, apart := false, narrowed := true }
def FnBraidActionsUptoSaid : Prop := fnBraidActionsUptoRow.holds Tryz.pinned (OpenSpec.upto fnBraidActionsSpec)

/-- 'laws.FnColouringsCarried', WHERE WHAT IT READS IS OF BULK AT MOST 1048576: true; the input reads as it did. -/
def fnColouringsCarriedUptoRow : OpenClaim := { program := "ytjhdbgohdmdpeaagreat", sum := "80a56c8dff87516dc87f191561b7cde8d380e080317e12aacc7b3688d6ac8ad1", func := "loop.example/g01119/laws.FnColouringsCarried", spec := "fnColouringsCarried", unfollowed := true, recurses := true, apart := false, narrowed := true }
def FnColouringsCarriedUptoSaid : Prop := fnColouringsCarriedUptoRow.holds Tryz.pinned (OpenSpec.upto fnColouringsCarriedSpec)

/-- 'laws.FnColourings', WHERE WHAT IT READS IS OF BULK AT MOST 1048576: true; the input reads as it did. -/
def fnColouringsUptoRow : OpenClaim := { program := "ytjhdbgohdmdpeaagreat", sum := "80a56c8dff87516dc87f191561b7cde8d380e080317e12aacc7b3688d6ac8ad1", func := "loop.example/g01119/laws.FnColourings", spec := "fnColourings", unfollowed := true, recurses := true, apart := false, narrowed := true }
def FnColouringsUptoSaid : Prop := fnColouringsUptoRow.holds Tryz.pinned (OpenSpec.upto fnColouringsSpec)

/-- 'laws.FnBraids', WHERE WHAT IT READS IS OF BULK AT MOST 1048576: true; the input reads as it did. -/
def fnBraidsUptoRow : OpenClaim := { program := "ytjhdbgohdmdpeaagreat", sum := "80a56c8dff87516dc87f191561b7cde8d380e080317e12aacc7b3688d6ac8ad1", func := "loop.example/g01119/laws.FnBraids", spec := "fnBraids", unfollowed := true, recurses := true, apart := false, narrowed := true }
def FnBraidsUptoSaid : Prop := fnBraidsUptoRow.holds Tryz.pinned (OpenSpec.upto fnBraidsSpec)

/-- 'laws.FnLinkingSums', WHERE WHAT IT READS IS OF BULK AT MOST 1048576: true; the input reads as it did. -/
def fnLinkingSumsUptoRow : OpenClaim := { program := "ytjhdbgohdmdpeaagreat", sum := "80a56c8dff87516dc87f191561b7cde8d380e080317e12aacc7b3688d6ac8ad1", func := "loop.example/g01119/laws.FnLinkingSums", spec := "fnLinkingSums", unfollowed := true, recurses := true, apart := false, narrowed := true }
def FnLinkingSumsUptoSaid : Prop := fnLinkingSumsUptoRow.holds Tryz.pinned (OpenSpec.upto fnLinkingSumsSpec)

/-- 'laws.FnBraidWeights', WHERE WHAT IT READS IS OF BULK AT MOST 1048576: true; the input reads as it did. -/
def fnBraidWeightsUptoRow : OpenClaim := { program := "ytjhdbgohdmdpeaagreat", sum := "80a56c8dff87516dc87f191561b7cde8d380e080317e12aacc7b3688d6ac8ad1", func := "loop.example/g01119/laws.FnBraidWeights", spec := "fnBraidWeights", unfollowed := true, recurses := true, apart := false, narrowed := true }
def FnBraidWeightsUptoSaid : Prop := fnBraidWeightsUptoRow.holds Tryz.pinned (OpenSpec.upto fnBraidWeightsSpec)

/-- 'laws.FnWeightBases', WHERE WHAT IT READS IS OF BULK AT MOST 1048576: true; the input reads as it did. -/
def fnWeightBasesUptoRow : OpenClaim := { program := "ytjhdbgohdmdpeaagreat", sum := "80a56c8dff87516dc87f191561b7cde8d380e080317e12aacc7b3688d6ac8ad1", func := "loop.example/g01119/laws.FnWeightBases", spec := "fnWeightBases", unfollowed := true, recurses := true, apart := false, narrowed := true }
def FnWeightBasesUptoSaid : Prop := fnWeightBasesUptoRow.holds Tryz.pinned (OpenSpec.upto fnWeightBasesSpec)

/-- 'laws.FnQuandleSums', WHERE WHAT IT READS IS OF BULK AT MOST 1048576: true; the input reads as it did. -/
def fnQuandleSumsUptoRow : OpenClaim := { program := "ytjhdbgohdmdpeaagreat", sum := "80a56c8dff87516dc87f191561b7cde8d380e080317e12aacc7b3688d6ac8ad1", func := "loop.example/g01119/laws.FnQuandleSums", spec := "fnQuandleSums", unfollowed := true, recurses := true, apart := false, narrowed := true }
def FnQuandleSumsUptoSaid : Prop := fnQuandleSumsUptoRow.holds Tryz.pinned (OpenSpec.upto fnQuandleSumsSpec)

/-- 'laws.FnStateSums', WHERE WHAT IT READS IS OF BULK AT MOST 1048576: true; the input reads as it did. -/
def fnStateSumsUptoRow : OpenClaim := { program := "ytjhdbgohdmdpeaagreat", sum := "80a56c8dff87516dc87f191561b7cde8d380e080317e12aacc7b3688d6ac8ad1", func := "loop.example/g01119/laws.FnStateSums", spec := "fnStateSums", unfollowed := true, recurses := true, apart := false, narrowed := true }
def FnStateSumsUptoSaid : Prop := fnStateSumsUptoRow.holds Tryz.pinned (OpenSpec.upto fnStateSumsSpec)

/-- 'laws.FnWeights', WHERE WHAT IT READS IS OF BULK AT MOST 1048576: true; the input reads as it did. -/
def fnWeightsUptoRow : OpenClaim := { program := "ytjhdbgohdmdpeaagreat", sum := "80a56c8dff87516dc87f191561b7cde8d380e080317e12aacc7b3688d6ac8ad1", func := "loop.example/g01119/laws.FnWeights", spec := "fnWeights", unfollowed := true, recurses := true, apart := false, narrowed := true }
def FnWeightsUptoSaid : Prop := fnWeightsUptoRow.holds Tryz.pinned (OpenSpec.upto fnWeightsSpec)

end Rows
end Go.Proofs.YtjhdbgohdmdpeaaGreat
