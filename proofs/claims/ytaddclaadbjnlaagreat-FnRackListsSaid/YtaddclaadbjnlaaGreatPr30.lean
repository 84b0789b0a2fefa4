/-
  Walks and plain laws of this seat, some texts in one.
  No condition but bounds on lengths.
-/
import Derived.Test.YtaddclaadbjnlaaGreatPr6
import Derived.Test.YtaddclaadbjnlaaGreatPr8
namespace Go.Proofs.YtaddclaadbjnlaaGreat
set_option maxRecDepth 100000
set_option linter.unusedVariables false
theorem rck_eq : ∀ n : Fin 5, 1 ≤ n.1 → rowL n.1 chkR = rckN n.1 := by decide +kernel
end Go.Proofs.YtaddclaadbjnlaaGreat
