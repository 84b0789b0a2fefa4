/-
  The reference's DrawBraidPeriod: a pair map and a braid that are read.
  No condition but bounds.
-/
import Derived.Test.YtmncpnpjhchliaaGreatPrDd
namespace Go.Proofs.YtmncpnpjhchliaaGreat
set_option linter.unusedVariables false
set_option linter.unusedSimpArgs false
set_option maxRecDepth 100000
open Go.RowKit

/-- a drawn pair map and a braid -/
def DrQ (w : World) (e : Ending) (w' : World) : Prop :=
  ∃ (n : Nat) (a : Option Addr) (c : Nat) (vs : List SV) (f : List (List Int)) (a' : Option Addr) (c' : Nat) (vs' : List SV) (g : List (List Int)) (S : Int) (ab : Option Addr) (nb cb : Nat) (xs : List Int),
    1 ≤ n ∧ n ≤ 6 ∧ 0 ≤ S ∧ S ≤ 10 ∧ nb ≤ 31 ∧ Sml xs ∧ e = .returned (.tuple #[sAgg a n c a' n c', bAgg S ab nb cb]) ∧ OwnS w' w.heap.size a n c vs f a' n c' vs' g ∧ Own w' w.heap.size ab nb cb xs ∧ Below w.heap.size w w'

end Go.Proofs.YtmncpnpjhchliaaGreat
