/-
  Walks and plain laws of this seat, some texts in one.
  No condition but bounds on lengths.
-/
import Derived.Test.YtaddclaadbjnlaaGreatPr31
import Derived.Test.YtaddclaadbjnlaaGreatPr33
namespace Go.Proofs.YtaddclaadbjnlaaGreat
set_option linter.unusedVariables false
theorem rkl_lens : ∀ n : Fin 5, 1 ≤ n.1 → (((rowL n.1 chkR).filter (lstB n.1)).length = [0, 1, 2, 6, 19].getD n.1 0 ∧ (((rowL n.1 chkR).filter (lstB n.1)).filter (fun t => !!qdI n.1 t)).length = [0, 1, 1, 3, 7].getD n.1 0) := by decide +kernel
theorem rkl_rk : ∀ n : Fin 5, 1 ≤ n.1 → ((rowL n.1 chkR).all fun t => isRk t && decide (t.length = n.1)) = true := by decide +kernel
end Go.Proofs.YtaddclaadbjnlaaGreat
