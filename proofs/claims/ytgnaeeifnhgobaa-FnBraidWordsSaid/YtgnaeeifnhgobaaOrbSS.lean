/-
  spec.l01Orbits for one permutation.
  No condition but bounds.
-/
import Derived.Test.YtgnaeeifnhgobaaOrbS
namespace Go.Proofs.Ytgnaeeifnhgobaa
set_option maxRecDepth 100000
set_option linter.unusedVariables false
set_option linter.unusedSimpArgs false
open Go.RowKit

end Go.Proofs.Ytgnaeeifnhgobaa
