/-
  Pair maps and solutions: what the program's questions answer.
  No condition but bounds on lengths.
-/
import Derived.Test.YthgafpeblpnolaaBase2
namespace Go.Proofs.Ythgafpeblpnolaa
set_option maxRecDepth 100000
set_option linter.unusedVariables false
set_option linter.unusedSimpArgs false
open Go.RowKit

end Go.Proofs.Ythgafpeblpnolaa
