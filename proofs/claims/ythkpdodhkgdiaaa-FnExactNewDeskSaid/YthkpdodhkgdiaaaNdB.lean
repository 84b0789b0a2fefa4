/-
  NewDesk on both sides.
  No condition.
-/
import Derived.Test.YthkpdodhkgdiaaaTwI
import Derived.Test.YthkpdodhkgdiaaaTwS
namespace Go.Proofs.Ythkpdodhkgdiaaa
theorem Nd_len : tot [[(0 : Int), 1], [0, 1]] + tot [[(0 : Int), 0], [1, 1]] + tot [[(0 : Int), 1], [0, 1]] + List.length ([] : List Int) ≤ 1000000 := by decide
end Go.Proofs.Ythkpdodhkgdiaaa
