/-
  spec.l01Orbits for one permutation.
  No condition but bounds.
-/
import Derived.Test.YthgafpeblpnolaaOrbS
namespace Go.Proofs.Ythgafpeblpnolaa
set_option maxRecDepth 100000
set_option linter.unusedVariables false
set_option linter.unusedSimpArgs false
open Go.RowKit

end Go.Proofs.Ythgafpeblpnolaa
