/-
  No cell of these rows narrows 'for every input' (looked for: loops, veiled, ifaces, maps, wideKeys, modest, calm, conditions, laid).
  DERIVED. THE GIVEN ROWS OF THIS SEAT. 7 by the template 'for every input the law returns true; each argument reads behind the call as it read before'; 0 by the template 'total and deterministic' (their statements: YtkanodiacfinmaaTotals.lean).
  GIVEN WITH THE SEED: the statements are not yours to turn. If you find one false, say at which input.
  Laid BY PROGRAM, IN A SANDBOX (cutbox-rows.mjs): the forced cells as the released guide's own fill.sh prints them over the translation 36a1c6518464ddad… (all of the seat's roots in one cut). By AI agents, Wed Nov 11 2026. No macro, syntax, notation, axiom, sorry.
-/
import Derived.Test.YtkanodiacfinmaaChecked
import GoSem.Claim
import GoSem.ClaimJoined
import GoSem.ClaimMapViews
import Derived.JoinedTies
import Derived.KernelRfl
namespace Go.Proofs.Ytkanodiacfinmaa
/- THE CELL 'sum', in the pinned program and in every row, IS THE sha256 OF THE DUMP (.gsa) THAT YtkanodiacfinmaaProg.lean LOADS. Nothing in Lean hashes anything: it is a label: what it is worth is what the hold of that sum in a sandbox is worth. -/
noncomputable def Try.pinned : Pinned := { name := "ytkanodiacfinmaa", sum := "36a1c6518464ddad2cf3d05c510f2fbaeefad5de5ebc6f4bbbda34160888c366", checked := Try.checked }
namespace Rows
def none {H : Type} : Left H := { results := [], args := [] }

/-- 'laws.FnExactTorusBraid': WHATEVER THE INPUT: true; the input reads as it did. -/
def fnExactTorusBraidSpec : ChangeSpec := { name := "fnExactTorusBraid", fn := fun _ => fun
  | [d1, d2] => { results := [.lit (.bool true)], args := [d1, d2] }
  | _ => none }
def fnExactTorusBraidRow : OpenClaim := { program := "ytkanodiacfinmaa", sum := "36a1c6518464ddad2cf3d05c510f2fbaeefad5de5ebc6f4bbbda34160888c366", func := "loop.example/g01119/laws.FnExactTorusBraid", spec := "fnExactTorusBraid", apart := false }
def FnExactTorusBraidSaid : Prop := fnExactTorusBraidRow.holds Try.pinned (OpenSpec.ofChange fnExactTorusBraidSpec)

/-- ITS FALSE NEIGHBOUR: 'it returns false'. Refute it at one input. -/
def fnExactTorusBraidWrong : ChangeSpec := { name := "fnExactTorusBraid", fn := fun _ => fun
  | [d1, d2] => { results := [.lit (.bool false)], args := [d1, d2] }
  | _ => none }
def FnExactTorusBraidWrongFalsely : Prop := fnExactTorusBraidRow.holds Try.pinned (OpenSpec.ofChange fnExactTorusBraidWrong)

/-- 'laws.FnExactMirrorBraid': WHATEVER THE INPUT: true; the input reads as it did. -/
def fnExactMirrorBraidSpec : ChangeSpec := { name := "fnExactMirrorBraid", fn := fun _ => fun
  | [d] => { results := [.lit (.bool true)], args := [d] }
  | _ => none }
def fnExactMirrorBraidRow : OpenClaim := { program := "ytkanodiacfinmaa", sum := "36a1c6518464ddad2cf3d05c510f2fbaeefad5de5ebc6f4bbbda34160888c366", func := "loop.example/g01119/laws.FnExactMirrorBraid", spec := "fnExactMirrorBraid", unfollowed := true, recurses := true, apart := false }
def FnExactMirrorBraidSaid : Prop := fnExactMirrorBraidRow.holds Try.pinned (OpenSpec.ofChange fnExactMirrorBraidSpec)

/-- ITS FALSE NEIGHBOUR: 'it returns false'. Refute it at one input. -/
def fnExactMirrorBraidWrong : ChangeSpec := { name := "fnExactMirrorBraid", fn := fun _ => fun
  | [d] => { results := [.lit (.bool false)], args := [d] }
  | _ => none }
def FnExactMirrorBraidWrongFalsely : Prop := fnExactMirrorBraidRow.holds Try.pinned (OpenSpec.ofChange fnExactMirrorBraidWrong)

/-- 'laws.FnExactReverseBraid': WHATEVER THE INPUT: true; the input reads as it did. -/
def fnExactReverseBraidSpec : ChangeSpec := { name := "fnExactReverseBraid", fn := fun _ => fun
  | [d] => { results := [.lit (.bool true)], args := [d] }
  | _ => none }
def fnExactReverseBraidRow : OpenClaim := { program := "ytkanodiacfinmaa", sum := "36a1c6518464ddad2cf3d05c510f2fbaeefad5de5ebc6f4bbbda34160888c366", func := "loop.example/g01119/laws.FnExactReverseBraid", spec := "fnExactReverseBraid", unfollowed := true, recurses := true, apart := false }
def FnExactReverseBraidSaid : Prop := fnExactReverseBraidRow.holds Try.pinned (OpenSpec.ofChange fnExactReverseBraidSpec)

/-- ITS FALSE NEIGHBOUR: 'it returns false'. Refute it at one input. -/
def fnExactReverseBraidWrong : ChangeSpec := { name := "fnExactReverseBraid", fn := fun _ => fun
  | [d] => { results := [.lit (.bool false)], args := [d] }
  | _ => none }
def FnExactReverseBraidWrongFalsely : Prop := fnExactReverseBraidRow.holds Try.pinned (OpenSpec.ofChange fnExactReverseBraidWrong)

/-- 'laws.FnExactStabilizeBraid': WHATEVER THE INPUT: true; the input reads as it did. -/
def fnExactStabilizeBraidSpec : ChangeSpec := { name := "fnExactStabilizeBraid", fn := fun _ => fun
  | [d1, d2] => { results := [.lit (.bool true)], args := [d1, d2] }
  | _ => none }
def fnExactStabilizeBraidRow : OpenClaim := { program := "ytkanodiacfinmaa", sum := "36a1c6518464ddad2cf3d05c510f2fbaeefad5de5ebc6f4bbbda34160888c366", func := "loop.example/g01119/laws.FnExactStabilizeBraid", spec := "fnExactStabilizeBraid", unfollowed := true, recurses := true, apart := false }
def FnExactStabilizeBraidSaid : Prop := fnExactStabilizeBraidRow.holds Try.pinned (OpenSpec.ofChange fnExactStabilizeBraidSpec)

/-- ITS FALSE NEIGHBOUR: 'it returns false'. Refute it at one input. -/
def fnExactStabilizeBraidWrong : ChangeSpec := { name := "fnExactStabilizeBraid", fn := fun _ => fun
  | [d1, d2] => { results := [.lit (.bool false)], args := [d1, d2] }
  | _ => none }
def FnExactStabilizeBraidWrongFalsely : Prop := fnExactStabilizeBraidRow.holds Try.pinned (OpenSpec.ofChange fnExactStabilizeBraidWrong)

/-- 'laws.FnExactConjugateBraid': WHATEVER THE INPUT: true; the input reads as it did. -/
def fnExactConjugateBraidSpec : ChangeSpec := { name := "fnExactConjugateBraid", fn := fun _ => fun
  | [d1, d2] => { results := [.lit (.bool true)], args := [d1, d2] }
  | _ => none }
def fnExactConjugateBraidRow : OpenClaim := { program := "ytkanodiacfinmaa", sum := "36a1c6518464ddad2cf3d05c510f2fbaeefad5de5ebc6f4bbbda34160888c366", func := "loop.example/g01119/laws.FnExactConjugateBraid", spec := "fnExactConjugateBraid", unfollowed := true, recurses := true, apart := false }
def FnExactConjugateBraidSaid : Prop := fnExactConjugateBraidRow.holds Try.pinned (OpenSpec.ofChange fnExactConjugateBraidSpec)

/-- ITS FALSE NEIGHBOUR: 'it returns false'. Refute it at one input. -/
def fnExactConjugateBraidWrong : ChangeSpec := { name := "fnExactConjugateBraid", fn := fun _ => fun
  | [d1, d2] => { results := [.lit (.bool false)], args := [d1, d2] }
  | _ => none }
def FnExactConjugateBraidWrongFalsely : Prop := fnExactConjugateBraidRow.holds Try.pinned (OpenSpec.ofChange fnExactConjugateBraidWrong)

/-- 'laws.FnExactDestabilizeBraid': WHATEVER THE INPUT: true; the input reads as it did. -/
def fnExactDestabilizeBraidSpec : ChangeSpec := { name := "fnExactDestabilizeBraid", fn := fun _ => fun
  | [d] => { results := [.lit (.bool true)], args := [d] }
  | _ => none }
def fnExactDestabilizeBraidRow : OpenClaim := { program := "ytkanodiacfinmaa", sum := "36a1c6518464ddad2cf3d05c510f2fbaeefad5de5ebc6f4bbbda34160888c366", func := "loop.example/g01119/laws.FnExactDestabilizeBraid", spec := "fnExactDestabilizeBraid", unfollowed := true, recurses := true, apart := false }
def FnExactDestabilizeBraidSaid : Prop := fnExactDestabilizeBraidRow.holds Try.pinned (OpenSpec.ofChange fnExactDestabilizeBraidSpec)

/-- ITS FALSE NEIGHBOUR: 'it returns false'. Refute it at one input. -/
def fnExactDestabilizeBraidWrong : ChangeSpec := { name := "fnExactDestabilizeBraid", fn := fun _ => fun
  | [d] => { results := [.lit (.bool false)], args := [d] }
  | _ => none }
def FnExactDestabilizeBraidWrongFalsely : Prop := fnExactDestabilizeBraidRow.holds Try.pinned (OpenSpec.ofChange fnExactDestabilizeBraidWrong)

/-- 'laws.FnExactAddMatrices': WHATEVER THE INPUT: true; the input reads as it did. -/
def fnExactAddMatricesSpec : ChangeSpec := { name := "fnExactAddMatrices", fn := fun _ => fun
  | [d1, d2, d3] => { results := [.lit (.bool true)], args := [d1, d2, d3] }
  | _ => none }
def fnExactAddMatricesRow : OpenClaim := { program := "ytkanodiacfinmaa", sum := "36a1c6518464ddad2cf3d05c510f2fbaeefad5de5ebc6f4bbbda34160888c366", func := "loop.example/g01119/laws.FnExactAddMatrices", spec := "fnExactAddMatrices", unfollowed := true, recurses := true, apart := false }
def FnExactAddMatricesSaid : Prop := fnExactAddMatricesRow.holds Try.pinned (OpenSpec.ofChange fnExactAddMatricesSpec)

/-- ITS FALSE NEIGHBOUR: 'it returns false'. Refute it at one input. -/
def fnExactAddMatricesWrong : ChangeSpec := { name := "fnExactAddMatrices", fn := fun _ => fun
  | [d1, d2, d3] => { results := [.lit (.bool false)], args := [d1, d2, d3] }
  | _ => none }
def FnExactAddMatricesWrongFalsely : Prop := fnExactAddMatricesRow.holds Try.pinned (OpenSpec.ofChange fnExactAddMatricesWrong)

/- THE SECOND FORM. 'bulk': how many values and letters a reading holds, each counted each time it is reached (what is shared counts as often as it is met; a slice's spare places count too). A statement '..UptoSaid' is the law's where the arguments, and the package variables that the reading takes, are together of bulk at most 1048576: NARROWER than '..Said'. Prove '..Said' where nothing that the law and all that it calls make is longer than what came in: it says more and counts as full. Else prove '..UptoSaid'. A law counts once. -/
mutual
def uptoBulk {H : Type} : DataW H → Nat
  | .lit (.string bytes) => bytes.length + 1
  | .lit _ => 1
  | .nil => 1
  | .ptr d => uptoBulk d + 1
  | .slice elems spare => uptoBulkAll elems + uptoBulkAll spare + 1
  | .agg parts => uptoBulkAll parts + 1
  | .iface _ d => uptoBulk d + 1
  | .map entries => uptoBulkEntries entries + 1
  | .held _ => 1
def uptoBulkAll {H : Type} : List (DataW H) → Nat
  | [] => 0
  | d :: r => uptoBulk d + uptoBulkAll r
def uptoBulkEntries {H : Type} : List (Lit × DataW H) → Nat
  | [] => 0
  | x :: r => uptoBulkEntry x + uptoBulkEntries r
def uptoBulkEntry {H : Type} : Lit × DataW H → Nat
  | (.string bytes, d) => bytes.length + uptoBulk d + 1
  | (_, d) => uptoBulk d + 1
 end
def uptoSmall : (H : Type) → List (DataW H) → Bool := fun _ ds => decide (uptoBulkAll ds ≤ 1048576)
def OpenSpec.upto (s : _root_.Go.ChangeSpec) : _root_.Go.OpenSpec := { _root_.Go.OpenSpec.ofChange s with cond := some uptoSmall }

/-- 'laws.FnExactTorusBraid', WHERE WHAT IT READS IS OF BULK AT MOST 1048576: true; the input reads as it did. -/
def fnExactTorusBraidUptoRow : OpenClaim := { program := "ytkanodiacfinmaa", sum := "36a1c6518464ddad2cf3d05c510f2fbaeefad5de5ebc6f4bbbda34160888c366", func := "loop.example/g01119/laws.FnExactTorusBraid", spec := "fnExactTorusBraid", apart := false, narrowed := true }
def FnExactTorusBraidUptoSaid : Prop := fnExactTorusBraidUptoRow.holds Try.pinned (OpenSpec.upto fnExactTorusBraidSpec)

/-- 'laws.FnExactMirrorBraid', WHERE WHAT IT READS IS OF BULK AT MOST 1048576: true; the input reads as it did. -/
def fnExactMirrorBraidUptoRow : OpenClaim := { program := "ytkanodiacfinmaa", sum := "36a1c6518464ddad2cf3d05c510f2fbaeefad5de5ebc6f4bbbda34160888c366", func := "loop.example/g01119/laws.FnExactMirrorBraid", spec := "fnExactMirrorBraid", unfollowed := true, recurses := true, apart := false, narrowed := true }
def FnExactMirrorBraidUptoSaid : Prop := fnExactMirrorBraidUptoRow.holds Try.pinned (OpenSpec.upto fnExactMirrorBraidSpec)

/-- 'laws.FnExactReverseBraid', WHERE WHAT IT READS IS OF BULK AT MOST 1048576: true; the input reads as it did. -/
def fnExactReverseBraidUptoRow : OpenClaim := { program := "ytkanodiacfinmaa", sum := "36a1c6518464ddad2cf3d05c510f2fbaeefad5de5ebc6f4bbbda34160888c366", func := "loop.example/g01119/laws.FnExactReverseBraid", spec := "fnExactReverseBraid", unfollowed := true, recurses := true, apart := false, narrowed := true }
def FnExactReverseBraidUptoSaid : Prop := fnExactReverseBraidUptoRow.holds Try.pinned (OpenSpec.upto fnExactReverseBraidSpec)

/-- 'laws.FnExactStabilizeBraid', WHERE WHAT IT READS IS OF BULK AT MOST 1048576: true; the input reads as it did. -/
def fnExactStabilizeBraidUptoRow : OpenClaim := { program := "ytkanodiacfinmaa", sum := "36a1c6518464ddad2cf3d05c510f2fbaeefad5de5ebc6f4bbbda34160888c366", func := "loop.example/g01119/laws.FnExactStabilizeBraid", spec := "fnExactStabilizeBraid", unfollowed := true, recurses := true, apart := false, narrowed := true }
def FnExactStabilizeBraidUptoSaid : Prop := fnExactStabilizeBraidUptoRow.holds Try.pinned (OpenSpec.upto fnExactStabilizeBraidSpec)

/-- 'laws.FnExactConjugateBraid', WHERE WHAT IT READS IS OF BULK AT MOST 1048576: true; the input reads as it did. -/
def fnExactConjugateBraidUptoRow : OpenClaim := { program := "ytkanodiacfinmaa", sum := "36a1c6518464ddad2cf3d05c510f2fbaeefad5de5ebc6f4bbbda34160888c366", func := "loop.example/g01119/laws.FnExactConjugateBraid", spec := "fnExactConjugateBraid", unfollowed := true, recurses := true, apart := false, narrowed := true }
def FnExactConjugateBraidUptoSaid : Prop := fnExactConjugateBraidUptoRow.holds Try.pinned (OpenSpec.upto fnExactConjugateBraidSpec)

/-- 'laws.FnExactDestabilizeBraid', WHERE WHAT IT READS IS OF BULK AT MOST 1048576: true; the input reads as it did. -/
def fnExactDestabilizeBraidUptoRow : OpenClaim := { program := "ytkanodiacfinmaa", sum := "36a1c6518464ddad2cf3d05c510f2fbaeefad5de5ebc6f4bbbda34160888c366", func := "loop.example/g01119/laws.FnExactDestabilizeBraid", spec := "fnExactDestabilizeBraid", unfollowed := true, recurses := true, apart := false, narrowed := true }
def FnExactDestabilizeBraidUptoSaid : Prop := fnExactDestabilizeBraidUptoRow.holds Try.pinned (OpenSpec.upto fnExactDestabilizeBraidSpec)

/-- 'laws.FnExactAddMatrices', WHERE WHAT IT READS IS OF BULK AT MOST 1048576: true; the input reads as it did. -/
def fnExactAddMatricesUptoRow : OpenClaim := { program := "ytkanodiacfinmaa", sum := "36a1c6518464ddad2cf3d05c510f2fbaeefad5de5ebc6f4bbbda34160888c366", func := "loop.example/g01119/laws.FnExactAddMatrices", spec := "fnExactAddMatrices", unfollowed := true, recurses := true, apart := false, narrowed := true }
def FnExactAddMatricesUptoSaid : Prop := fnExactAddMatricesUptoRow.holds Try.pinned (OpenSpec.upto fnExactAddMatricesSpec)

end Rows
end Go.Proofs.Ytkanodiacfinmaa
