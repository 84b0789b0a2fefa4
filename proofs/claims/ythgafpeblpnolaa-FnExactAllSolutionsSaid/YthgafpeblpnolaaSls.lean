/-
  CountSolutionTables: what the reference's and the program's compute.
  No condition but bounds.
-/
import Derived.Test.YthgafpeblpnolaaSlsI
import Derived.Test.YthgafpeblpnolaaSlsS
import Derived.Test.YthgafpeblpnolaaBase2
namespace Go.Proofs.Ythgafpeblpnolaa
set_option maxRecDepth 100000
set_option linter.unusedVariables false
set_option linter.unusedSimpArgs false
open Go.RowKit

/-- what CountSolutionTables answers -/
def slsF (x : Int) : Int × Int := if 1 ≤ x ∧ x ≤ 3 then (((solL x.toNat).length : Int), 0) else (0, 2)
theorem slsL_bd {n : Nat} (h1 : 1 ≤ n) (h3 : n ≤ 3) : (solL n).length ≤ 1000000 := by
  have h := solL_len n
  have hl := allT_len ⟨n, by omega⟩ h1
  simp only at hl
  have := Nat.mul_le_mul (show (allT (prmL n) n []).length ≤ 216 by omega) (show (allT (prmL n) n []).length ≤ 216 by omega)
  omega
end Go.Proofs.Ythgafpeblpnolaa
