/-
  The tables of racks, row by row and by spreading: one list.
  No condition.
-/
import Derived.Test.YtehomfbehhlhmaaRowL
import Derived.Test.YtehomfbehhlhmaaCrkS
namespace Go.Proofs.Ytehomfbehhlhmaa
set_option maxRecDepth 100000
set_option linter.unusedVariables false

theorem rck_eq : ∀ n : Fin 5, 1 ≤ n.1 → rowL n.1 chkR = rckN n.1 := by decide +kernel
end Go.Proofs.Ytehomfbehhlhmaa
