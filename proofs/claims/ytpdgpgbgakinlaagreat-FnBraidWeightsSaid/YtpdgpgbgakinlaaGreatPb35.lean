/-
  Walks and plain laws of this seat, some texts in one.
  No condition but bounds on lengths.
-/
import Derived.Test.YtpdgpgbgakinlaaGreatPb10
namespace Go.Proofs.YtpdgpgbgakinlaaGreat
set_option linter.unusedVariables false
set_option linter.unusedSimpArgs false
set_option maxRecDepth 100000
/-! ### what holds of each list of n numbers below n without a double one -/
/-! ### components of a permutation, as a list -/
end Go.Proofs.YtpdgpgbgakinlaaGreat
