/-
  Walks and plain laws of this seat, some texts in one.
  No condition but bounds on lengths.
-/
import Derived.Test.YtaddclaadbjnlaaGreatPs41
import Derived.Test.YtaddclaadbjnlaaGreatPs12
import Derived.Test.YtaddclaadbjnlaaGreatPs40
namespace Go.Proofs.YtaddclaadbjnlaaGreat
set_option maxRecDepth 100000
set_option linter.unusedVariables false
set_option linter.unusedSimpArgs false
theorem cy_q0 : cntQ (cycR 4) 0 = 66 := by decide +kernel
theorem cy_q1 : cntQ (cycR 4) 1 = 34 := by decide +kernel
theorem cy_q2 : cntQ (cycR 4) 2 = 34 := by decide +kernel
theorem cy_q3 : cntQ (cycR 4) 3 = 34 := by decide +kernel
theorem cy_len4 : (rowL 4 (cycR 4)).length = 168 := by rw [cnt_parts, cy_q0, cy_q1, cy_q2, cy_q3]
def cyR4 : List (List (List Int)) := [[[0, 1, 2, 3], [0, 1, 2, 3], [0, 1, 2, 3], [0, 1, 2, 3]], [[0, 1, 2, 3], [0, 1, 2, 3], [0, 1, 2, 3], [0, 2, 1, 3]], [[0, 1, 2, 3], [0, 1, 2, 3], [0, 1, 2, 3], [1, 2, 0, 3]], [[0, 1, 2, 3], [0, 1, 2,
  3], [0, 1, 3, 2], [0, 1, 3, 2]], [[0, 1, 2, 3], [0, 1, 2, 3], [0, 1, 3, 2], [1, 0, 3, 2]], [[0, 1, 2, 3], [0, 1, 2, 3], [1, 0, 2, 3], [1, 0, 2, 3]], [[0, 1, 2, 3], [0, 1, 2, 3], [1, 0, 3, 2], [1, 0,
  3, 2]], [[0, 1, 2, 3], [0, 1, 3, 2], [0, 1, 3, 2], [0, 1, 3, 2]], [[0, 1, 2, 3], [0, 2, 3, 1], [0, 2, 3, 1], [0, 2, 3, 1]], [[0, 1, 3, 2], [0, 1, 3, 2], [0, 1, 3, 2], [0, 1, 3, 2]], [[0, 1, 3, 2], [0,
  1, 3, 2], [1, 0, 2, 3], [1, 0, 2, 3]], [[0, 1, 3, 2], [0, 1, 3, 2], [1, 0, 3, 2], [1, 0, 3, 2]], [[0, 1, 3, 2], [2, 3, 1, 0], [1, 0, 2, 3], [3, 2, 0, 1]], [[0, 2, 3, 1], [0, 2, 3, 1], [0, 2, 3, 1],
  [0, 2, 3, 1]], [[0, 2, 3, 1], [0, 3, 1, 2], [0, 3, 1, 2], [0, 3, 1, 2]], [[1, 0, 2, 3], [1, 0, 2, 3], [0, 1, 3, 2], [0, 1, 3, 2]], [[1, 0, 2, 3], [1, 0, 2, 3], [0, 1, 3, 2], [1, 0, 3, 2]], [[1, 0, 2,
  3], [1, 0, 2, 3], [1, 0, 3, 2], [1, 0, 3, 2]], [[1, 0, 2, 3], [2, 3, 1, 0], [3, 2, 0, 1], [0, 1, 3, 2]], [[1, 0, 3, 2], [1, 0, 3, 2], [1, 0, 3, 2], [1, 0, 3, 2]], [[1, 0, 3, 2], [2, 3, 0, 1], [2, 3,
  0, 1], [1, 0, 3, 2]], [[1, 2, 3, 0], [1, 2, 3, 0], [1, 2, 3, 0], [1, 2, 3, 0]], [[1, 2, 3, 0], [3, 0, 1, 2], [1, 2, 3, 0], [3, 0, 1, 2]]]
theorem cyR4_nd : cyR4.Nodup := by decide +kernel
theorem cyR4_ok : certB 4 (cycR 4) cyR4 = true := by decide +kernel
theorem cyR4_sum : (cyR4.map (gfN 4)).sum = 168 := by decide +kernel
theorem cy_small : ∀ n : Fin 4, 1 ≤ n.1 → ((rowL n.1 (cycR n.1)).filter (lstB n.1)).length = [0, 1, 2, 5].getD n.1 0 := by decide +kernel
end Go.Proofs.YtaddclaadbjnlaaGreat
