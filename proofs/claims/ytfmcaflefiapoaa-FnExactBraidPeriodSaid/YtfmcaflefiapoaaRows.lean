/-
  No cell of these rows narrows 'for every input' (looked for: loops, veiled, ifaces, maps, wideKeys, modest, calm, conditions, laid).
  DERIVED. THE GIVEN ROWS OF THIS SEAT. 9 by the template 'for every input the law returns true; each argument reads behind the call as it read before'; 0 by the template 'total and deterministic' (their statements: YtfmcaflefiapoaaTotals.lean).
  GIVEN WITH THE SEED: the statements are not yours to turn. If you find one false, say at which input.
  Laid BY PROGRAM, IN A SANDBOX (cutbox-rows.mjs): the forced cells as the released guide's own fill.sh prints them over the translation b6ead34f894a7d5c… (all of the seat's roots in one cut). By AI agents, Wed Nov 11 2026. No macro, syntax, notation, axiom, sorry.
-/
import Derived.Test.YtfmcaflefiapoaaChecked
import GoSem.Claim
import GoSem.ClaimJoined
import GoSem.ClaimMapViews
import Derived.JoinedTies
import Derived.KernelRfl
namespace Go.Proofs.Ytfmcaflefiapoaa
/- THE CELL 'sum', in the pinned program and in every row, IS THE sha256 OF THE DUMP (.gsa) THAT YtfmcaflefiapoaaProg.lean LOADS. Nothing in Lean hashes anything: it is a label: what it is worth is what the hold of that sum in a sandbox is worth. -/
noncomputable def Try.pinned : Pinned := { name := "ytfmcaflefiapoaa", sum := "b6ead34f894a7d5ce4c2a8324f76846a52ae0f7b4bfbda724042107adf6ca18c", checked := Try.checked }
namespace Rows
def none {H : Type} : Left H := { results := [], args := [] }

/-- 'laws.FnExactWeightOfTuple': WHATEVER THE INPUT: true; the input reads as it did. -/
def fnExactWeightOfTupleSpec : ChangeSpec := { name := "fnExactWeightOfTuple", fn := fun _ => fun
  | [d1, d2, d3, d4, d5] => { results := [.lit (.bool true)], args := [d1, d2, d3, d4, d5] }
  | _ => none }
def fnExactWeightOfTupleRow : OpenClaim := { program := "ytfmcaflefiapoaa", sum := "b6ead34f894a7d5ce4c2a8324f76846a52ae0f7b4bfbda724042107adf6ca18c", func := "loop.example/g01119/laws.FnExactWeightOfTuple", spec := "fnExactWeightOfTuple", unfollowed := true, recurses := true, apart := false }
def FnExactWeightOfTupleSaid : Prop := fnExactWeightOfTupleRow.holds Try.pinned (OpenSpec.ofChange fnExactWeightOfTupleSpec)

/-- ITS FALSE NEIGHBOUR: 'it returns false'. Refute it at one input. -/
def fnExactWeightOfTupleWrong : ChangeSpec := { name := "fnExactWeightOfTuple", fn := fun _ => fun
  | [d1, d2, d3, d4, d5] => { results := [.lit (.bool false)], args := [d1, d2, d3, d4, d5] }
  | _ => none }
def FnExactWeightOfTupleWrongFalsely : Prop := fnExactWeightOfTupleRow.holds Try.pinned (OpenSpec.ofChange fnExactWeightOfTupleWrong)

/-- 'laws.FnExactCountColourings': WHATEVER THE INPUT: true; the input reads as it did. -/
def fnExactCountColouringsSpec : ChangeSpec := { name := "fnExactCountColourings", fn := fun _ => fun
  | [d1, d2] => { results := [.lit (.bool true)], args := [d1, d2] }
  | _ => none }
def fnExactCountColouringsRow : OpenClaim := { program := "ytfmcaflefiapoaa", sum := "b6ead34f894a7d5ce4c2a8324f76846a52ae0f7b4bfbda724042107adf6ca18c", func := "loop.example/g01119/laws.FnExactCountColourings", spec := "fnExactCountColourings", unfollowed := true, recurses := true, apart := false }
def FnExactCountColouringsSaid : Prop := fnExactCountColouringsRow.holds Try.pinned (OpenSpec.ofChange fnExactCountColouringsSpec)

/-- ITS FALSE NEIGHBOUR: 'it returns false'. Refute it at one input. -/
def fnExactCountColouringsWrong : ChangeSpec := { name := "fnExactCountColourings", fn := fun _ => fun
  | [d1, d2] => { results := [.lit (.bool false)], args := [d1, d2] }
  | _ => none }
def FnExactCountColouringsWrongFalsely : Prop := fnExactCountColouringsRow.holds Try.pinned (OpenSpec.ofChange fnExactCountColouringsWrong)

/-- 'laws.FnExactWeightFault': WHATEVER THE INPUT: true; the input reads as it did. -/
def fnExactWeightFaultSpec : ChangeSpec := { name := "fnExactWeightFault", fn := fun _ => fun
  | [d1, d2, d3] => { results := [.lit (.bool true)], args := [d1, d2, d3] }
  | _ => none }
def fnExactWeightFaultRow : OpenClaim := { program := "ytfmcaflefiapoaa", sum := "b6ead34f894a7d5ce4c2a8324f76846a52ae0f7b4bfbda724042107adf6ca18c", func := "loop.example/g01119/laws.FnExactWeightFault", spec := "fnExactWeightFault", unfollowed := true, recurses := true, apart := false }
def FnExactWeightFaultSaid : Prop := fnExactWeightFaultRow.holds Try.pinned (OpenSpec.ofChange fnExactWeightFaultSpec)

/-- ITS FALSE NEIGHBOUR: 'it returns false'. Refute it at one input. -/
def fnExactWeightFaultWrong : ChangeSpec := { name := "fnExactWeightFault", fn := fun _ => fun
  | [d1, d2, d3] => { results := [.lit (.bool false)], args := [d1, d2, d3] }
  | _ => none }
def FnExactWeightFaultWrongFalsely : Prop := fnExactWeightFaultRow.holds Try.pinned (OpenSpec.ofChange fnExactWeightFaultWrong)

/-- 'laws.FnExactBraidPeriod': WHATEVER THE INPUT: true; the input reads as it did. -/
def fnExactBraidPeriodSpec : ChangeSpec := { name := "fnExactBraidPeriod", fn := fun _ => fun
  | [d1, d2] => { results := [.lit (.bool true)], args := [d1, d2] }
  | _ => none }
def fnExactBraidPeriodRow : OpenClaim := { program := "ytfmcaflefiapoaa", sum := "b6ead34f894a7d5ce4c2a8324f76846a52ae0f7b4bfbda724042107adf6ca18c", func := "loop.example/g01119/laws.FnExactBraidPeriod", spec := "fnExactBraidPeriod", unfollowed := true, recurses := true, apart := false }
def FnExactBraidPeriodSaid : Prop := fnExactBraidPeriodRow.holds Try.pinned (OpenSpec.ofChange fnExactBraidPeriodSpec)

/-- ITS FALSE NEIGHBOUR: 'it returns false'. Refute it at one input. -/
def fnExactBraidPeriodWrong : ChangeSpec := { name := "fnExactBraidPeriod", fn := fun _ => fun
  | [d1, d2] => { results := [.lit (.bool false)], args := [d1, d2] }
  | _ => none }
def FnExactBraidPeriodWrongFalsely : Prop := fnExactBraidPeriodRow.holds Try.pinned (OpenSpec.ofChange fnExactBraidPeriodWrong)

/-- 'laws.FnExactColouringsOf': WHATEVER THE INPUT: true; the input reads as it did. -/
def fnExactColouringsOfSpec : ChangeSpec := { name := "fnExactColouringsOf", fn := fun _ => fun
  | [d1, d2] => { results := [.lit (.bool true)], args := [d1, d2] }
  | _ => none }
def fnExactColouringsOfRow : OpenClaim := { program := "ytfmcaflefiapoaa", sum := "b6ead34f894a7d5ce4c2a8324f76846a52ae0f7b4bfbda724042107adf6ca18c", func := "loop.example/g01119/laws.FnExactColouringsOf", spec := "fnExactColouringsOf", unfollowed := true, recurses := true, apart := false }
def FnExactColouringsOfSaid : Prop := fnExactColouringsOfRow.holds Try.pinned (OpenSpec.ofChange fnExactColouringsOfSpec)

/-- ITS FALSE NEIGHBOUR: 'it returns false'. Refute it at one input. -/
def fnExactColouringsOfWrong : ChangeSpec := { name := "fnExactColouringsOf", fn := fun _ => fun
  | [d1, d2] => { results := [.lit (.bool false)], args := [d1, d2] }
  | _ => none }
def FnExactColouringsOfWrongFalsely : Prop := fnExactColouringsOfRow.holds Try.pinned (OpenSpec.ofChange fnExactColouringsOfWrong)

/-- 'laws.FnExactColouringWeights': WHATEVER THE INPUT: true; the input reads as it did. -/
def fnExactColouringWeightsSpec : ChangeSpec := { name := "fnExactColouringWeights", fn := fun _ => fun
  | [d1, d2, d3, d4] => { results := [.lit (.bool true)], args := [d1, d2, d3, d4] }
  | _ => none }
def fnExactColouringWeightsRow : OpenClaim := { program := "ytfmcaflefiapoaa", sum := "b6ead34f894a7d5ce4c2a8324f76846a52ae0f7b4bfbda724042107adf6ca18c", func := "loop.example/g01119/laws.FnExactColouringWeights", spec := "fnExactColouringWeights", unfollowed := true, recurses := true, apart := false }
def FnExactColouringWeightsSaid : Prop := fnExactColouringWeightsRow.holds Try.pinned (OpenSpec.ofChange fnExactColouringWeightsSpec)

/-- ITS FALSE NEIGHBOUR: 'it returns false'. Refute it at one input. -/
def fnExactColouringWeightsWrong : ChangeSpec := { name := "fnExactColouringWeights", fn := fun _ => fun
  | [d1, d2, d3, d4] => { results := [.lit (.bool false)], args := [d1, d2, d3, d4] }
  | _ => none }
def FnExactColouringWeightsWrongFalsely : Prop := fnExactColouringWeightsRow.holds Try.pinned (OpenSpec.ofChange fnExactColouringWeightsWrong)

/-- 'laws.FnExactHaveEqualSums': WHATEVER THE INPUT: true; the input reads as it did. -/
def fnExactHaveEqualSumsSpec : ChangeSpec := { name := "fnExactHaveEqualSums", fn := fun _ => fun
  | [d1, d2, d3, d4, d5] => { results := [.lit (.bool true)], args := [d1, d2, d3, d4, d5] }
  | _ => none }
def fnExactHaveEqualSumsRow : OpenClaim := { program := "ytfmcaflefiapoaa", sum := "b6ead34f894a7d5ce4c2a8324f76846a52ae0f7b4bfbda724042107adf6ca18c", func := "loop.example/g01119/laws.FnExactHaveEqualSums", spec := "fnExactHaveEqualSums", unfollowed := true, recurses := true, apart := false }
def FnExactHaveEqualSumsSaid : Prop := fnExactHaveEqualSumsRow.holds Try.pinned (OpenSpec.ofChange fnExactHaveEqualSumsSpec)

/-- ITS FALSE NEIGHBOUR: 'it returns false'. Refute it at one input. -/
def fnExactHaveEqualSumsWrong : ChangeSpec := { name := "fnExactHaveEqualSums", fn := fun _ => fun
  | [d1, d2, d3, d4, d5] => { results := [.lit (.bool false)], args := [d1, d2, d3, d4, d5] }
  | _ => none }
def FnExactHaveEqualSumsWrongFalsely : Prop := fnExactHaveEqualSumsRow.holds Try.pinned (OpenSpec.ofChange fnExactHaveEqualSumsWrong)

/-- 'laws.FnExactStateSum': WHATEVER THE INPUT: true; the input reads as it did. -/
def fnExactStateSumSpec : ChangeSpec := { name := "fnExactStateSum", fn := fun _ => fun
  | [d1, d2, d3, d4] => { results := [.lit (.bool true)], args := [d1, d2, d3, d4] }
  | _ => none }
def fnExactStateSumRow : OpenClaim := { program := "ytfmcaflefiapoaa", sum := "b6ead34f894a7d5ce4c2a8324f76846a52ae0f7b4bfbda724042107adf6ca18c", func := "loop.example/g01119/laws.FnExactStateSum", spec := "fnExactStateSum", unfollowed := true, recurses := true, apart := false }
def FnExactStateSumSaid : Prop := fnExactStateSumRow.holds Try.pinned (OpenSpec.ofChange fnExactStateSumSpec)

/-- ITS FALSE NEIGHBOUR: 'it returns false'. Refute it at one input. -/
def fnExactStateSumWrong : ChangeSpec := { name := "fnExactStateSum", fn := fun _ => fun
  | [d1, d2, d3, d4] => { results := [.lit (.bool false)], args := [d1, d2, d3, d4] }
  | _ => none }
def FnExactStateSumWrongFalsely : Prop := fnExactStateSumRow.holds Try.pinned (OpenSpec.ofChange fnExactStateSumWrong)

/-- 'laws.FnExactIsQuandleWeight': WHATEVER THE INPUT: true; the input reads as it did. -/
def fnExactIsQuandleWeightSpec : ChangeSpec := { name := "fnExactIsQuandleWeight", fn := fun _ => fun
  | [d1, d2, d3] => { results := [.lit (.bool true)], args := [d1, d2, d3] }
  | _ => none }
def fnExactIsQuandleWeightRow : OpenClaim := { program := "ytfmcaflefiapoaa", sum := "b6ead34f894a7d5ce4c2a8324f76846a52ae0f7b4bfbda724042107adf6ca18c", func := "loop.example/g01119/laws.FnExactIsQuandleWeight", spec := "fnExactIsQuandleWeight", unfollowed := true, recurses := true, apart := false }
def FnExactIsQuandleWeightSaid : Prop := fnExactIsQuandleWeightRow.holds Try.pinned (OpenSpec.ofChange fnExactIsQuandleWeightSpec)

/-- ITS FALSE NEIGHBOUR: 'it returns false'. Refute it at one input. -/
def fnExactIsQuandleWeightWrong : ChangeSpec := { name := "fnExactIsQuandleWeight", fn := fun _ => fun
  | [d1, d2, d3] => { results := [.lit (.bool false)], args := [d1, d2, d3] }
  | _ => none }
def FnExactIsQuandleWeightWrongFalsely : Prop := fnExactIsQuandleWeightRow.holds Try.pinned (OpenSpec.ofChange fnExactIsQuandleWeightWrong)

/- THE SECOND FORM. 'bulk': how many values and letters a reading holds, each counted each time it is reached (what is shared counts as often as it is met; a slice's spare places count too). A statement '..UptoSaid' is the law's where the arguments, and the package variables that the reading takes, are together of bulk at most 1048576: NARROWER than '..Said'. Prove '..Said' where nothing that the law and all that it calls make is longer than what came in: it says more and counts as full. Else prove '..UptoSaid'. A law counts once. -/
mutual
def uptoBulk {H : Type} : DataW H → Nat
  | .lit (.string bytes) => bytes.length + 1
  | .lit _ => 1
  | .nil => 1
  | .ptr d => uptoBulk d + 1
  | .slice elems spare => uptoBulkAll elems + uptoBulkAll spare + 1
  | .agg parts => uptoBulkAll parts + 1
  | .iface _ d => uptoBulk d + 1
  | .map entries => uptoBulkEntries entries + 1
  | .held _ => 1
def uptoBulkAll {H : Type} : List (DataW H) → Nat
  | [] => 0
  | d :: r => uptoBulk d + uptoBulkAll r
def uptoBulkEntries {H : Type} : List (Lit × DataW H) → Nat
  | [] => 0
  | x :: r => uptoBulkEntry x + uptoBulkEntries r
def uptoBulkEntry {H : Type} : Lit × DataW H → Nat
  | (.string bytes, d) => bytes.length + uptoBulk d + 1
  | (_, d) => uptoBulk d + 1
 end
def uptoSmall : (H : Type) → List (DataW H) → Bool := fun _ ds => decide (uptoBulkAll ds ≤ 1048576)
def OpenSpec.upto (s : _root_.Go.ChangeSpec) : _root_.Go.OpenSpec := { _root_.Go.OpenSpec.ofChange s with cond := some uptoSmall }

/-- 'laws.FnExactWeightOfTuple', WHERE WHAT IT READS IS OF BULK AT MOST 1048576: true; the input reads as it did. -/
def fnExactWeightOfTupleUptoRow : OpenClaim := { program := "ytfmcaflefiapoaa", sum := "b6ead34f894a7d5ce4c2a8324f76846a52ae0f7b4bfbda724042107adf6ca18c", func := "loop.example/g01119/laws.FnExactWeightOfTuple", spec := "fnExactWeightOfTuple", unfollowed := true, recurses := true, apart := false, narrowed := true }
def FnExactWeightOfTupleUptoSaid : Prop := fnExactWeightOfTupleUptoRow.holds Try.pinned (OpenSpec.upto fnExactWeightOfTupleSpec)

/-- 'laws.FnExactCountColourings', WHERE WHAT IT READS IS OF BULK AT MOST 1048576: true; the input reads as it did. -/
def fnExactCountColouringsUptoRow : OpenClaim := { program := "ytfmcaflefiapoaa", sum := "b6ead34f894a7d5ce4c2a8324f76846a52ae0f7b4bfbda724042107adf6ca18c", func := "loop.example/g01119/laws.FnExactCountColourings", spec := "fnExactCountColourings", unfollowed := true, recurses := true, apart := false, narrowed := true }
def FnExactCountColouringsUptoSaid : Prop := fnExactCountColouringsUptoRow.holds Try.pinned (OpenSpec.upto fnExactCountColouringsSpec)

/-- 'laws.FnExactWeightFault', WHERE WHAT IT READS IS OF BULK AT MOST 1048576: true; the input reads as it did. -/
def fnExactWeightFaultUptoRow : OpenClaim := { program := "ytfmcaflefiapoaa", sum := "b6ead34f894a7d5ce4c2a8324f76846a52ae0f7b4bfbda724042107adf6ca18c", func := "loop.example/g01119/laws.FnExactWeightFault", spec := "fnExactWeightFault", unfollowed := true, recurses := true, apart := false, narrowed := true }
def FnExactWeightFaultUptoSaid : Prop := fnExactWeightFaultUptoRow.holds Try.pinned (OpenSpec.upto fnExactWeightFaultSpec)

/-- 'laws.FnExactBraidPeriod', WHERE WHAT IT READS IS OF BULK AT MOST 1048576: true; the input reads as it did. -/
def fnExactBraidPeriodUptoRow : OpenClaim := { program := "ytfmcaflefiapoaa", sum := "b6ead34f894a7d5ce4c2a8324f76846a52ae0f7b4bfbda724042107adf6ca18c", func := "loop.example/g01119/laws.FnExactBraidPeriod", spec := "fnExactBraidPeriod", unfollowed := true, recurses := true, apart := false, narrowed := true }
def FnExactBraidPeriodUptoSaid : Prop := fnExactBraidPeriodUptoRow.holds Try.pinned (OpenSpec.upto fnExactBraidPeriodSpec)

/-- 'laws.FnExactColouringsOf', WHERE WHAT IT READS IS OF BULK AT MOST 1048576: true; the input reads as it did. -/
def fnExactColouringsOfUptoRow : OpenClaim := { program := "ytfmcaflefiapoaa", sum := "b6ead34f894a7d5ce4c2a8324f76846a52ae0f7b4bfbda724042107adf6ca18c", func := "loop.example/g01119/laws.FnExactColouringsOf", spec := "fnExactColouringsOf", unfollowed := true, recurses := true, apart := false, narrowed := true }
def FnExactColouringsOfUptoSaid : Prop := fnExactColouringsOfUptoRow.holds Try.pinned (OpenSpec.upto fnExactColouringsOfSpec)

/-- 'laws.FnExactColouringWeights', WHERE WHAT IT READS IS OF BULK AT MOST 1048576: true; the input reads as it did. -/
def fnExactColouringWeightsUptoRow : OpenClaim := { program := "ytfmcaflefiapoaa", sum := "b6ead34f894a7d5ce4c2a8324f76846a52ae0f7b4bfbda724042107adf6ca18c", func := "loop.example/g01119/laws.FnExactColouringWeights", spec := "fnExactColouringWeights", unfollowed := true, recurses := true, apart := false, narrowed := true }
def FnExactColouringWeightsUptoSaid : Prop := fnExactColouringWeightsUptoRow.holds Try.pinned (OpenSpec.upto fnExactColouringWeightsSpec)

/-- 'laws.FnExactHaveEqualSums', WHERE WHAT IT READS IS OF BULK AT MOST 1048576: true; the input reads as it did. -/
def fnExactHaveEqualSumsUptoRow : OpenClaim := { program := "ytfmcaflefiapoaa", sum := "b6ead34f894a7d5ce4c2a8324f76846a52ae0f7b4bfbda724042107adf6ca18c", func := "loop.example/g01119/laws.FnExactHaveEqualSums", spec := "fnExactHaveEqualSums", unfollowed := true, recurses := true, apart := false, narrowed := true }
def FnExactHaveEqualSumsUptoSaid : Prop := fnExactHaveEqualSumsUptoRow.holds Try.pinned (OpenSpec.upto fnExactHaveEqualSumsSpec)

/-- 'laws.FnExactStateSum', WHERE WHAT IT READS IS OF BULK AT MOST 1048576: true; the input reads as it did. -/
def fnExactStateSumUptoRow : OpenClaim := { program := "ytfmcaflefiapoaa", sum := "b6ead34f894a7d5ce4c2a8324f76846a52ae0f7b4bfbda724042107adf6ca18c", func := "loop.example/g01119/laws.FnExactStateSum", spec := "fnExactStateSum", unfollowed := true, recurses := true, apart := false, narrowed := true }
def FnExactStateSumUptoSaid : Prop := fnExactStateSumUptoRow.holds Try.pinned (OpenSpec.upto fnExactStateSumSpec)

/-- 'laws.FnExactIsQuandleWeight', WHERE WHAT IT READS IS OF BULK AT MOST 1048576: true; the input reads as it did. -/
def fnExactIsQuandleWeightUptoRow : OpenClaim := { program := "ytfmcaflefiapoaa", sum := "b6ead34f894a7d5ce4c2a8324f76846a52ae0f7b4bfbda724042107adf6ca18c", func := "loop.example/g01119/laws.FnExactIsQuandleWeight", spec := "fnExactIsQuandleWeight", unfollowed := true, recurses := true, apart := false, narrowed := true }
def FnExactIsQuandleWeightUptoSaid : Prop := fnExactIsQuandleWeightUptoRow.holds Try.pinned (OpenSpec.upto fnExactIsQuandleWeightSpec)

end Rows
end Go.Proofs.Ytfmcaflefiapoaa
