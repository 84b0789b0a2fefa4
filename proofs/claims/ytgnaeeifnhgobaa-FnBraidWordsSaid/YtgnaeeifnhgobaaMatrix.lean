/-
  Matrices modulo m: what the program's and the reference's questions answer.
  No condition but bounds on lengths.
-/
import Derived.Test.YtgnaeeifnhgobaaBase
namespace Go.Proofs.Ytgnaeeifnhgobaa
set_option maxRecDepth 100000
set_option linter.unusedVariables false
set_option linter.unusedSimpArgs false
open Go.RowKit

/-- a matrix for n elements and m -/
def isMx (n m : Int) (f : List (List Int)) : Bool := rngB 1 12 m && (decide ((f.length : Int) = n) && f.all (rowOk n m))

end Go.Proofs.Ytgnaeeifnhgobaa
