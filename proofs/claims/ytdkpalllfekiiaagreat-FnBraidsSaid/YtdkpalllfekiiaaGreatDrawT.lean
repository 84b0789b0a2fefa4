/-
  Drawn braids and numbers two at a time: what the drawing functions leave, whatever they draw.
  No condition but bounds.
-/
import Derived.Test.YtdkpalllfekiiaaGreatBase4
namespace Go.Proofs.YtdkpalllfekiiaaGreat
set_option linter.unusedVariables false
set_option linter.unusedSimpArgs false
set_option maxRecDepth 100000
open Go.RowKit


/-- what a function that draws two braids out of a code leaves -/
def DrTT (w : World) (e : Ending) (w' : World) : Prop :=
  ∃ (S : Int) (a : Option Addr) (n c : Nat) (xs : List Int) (S' : Int) (a' : Option Addr) (n' c' : Nat) (xs' : List Int), e = .returned (.tuple #[bAgg S a n c, bAgg S' a' n' c']) ∧ 0 ≤ S ∧ S ≤ 10 ∧ n ≤ 31 ∧ Sml xs ∧ 0 ≤ S' ∧ S' ≤ 10 ∧ n' ≤ 31 ∧ Sml xs' ∧ Own w' w.heap.size a n c xs ∧ Own w' w.heap.size a' n' c' xs' ∧ Below w.heap.size w w'
end Go.Proofs.YtdkpalllfekiiaaGreat
