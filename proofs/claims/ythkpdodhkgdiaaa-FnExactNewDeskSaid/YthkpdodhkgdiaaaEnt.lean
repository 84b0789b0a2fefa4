/-
  A function value of the program's own is entered.
  No condition.
-/
import Derived.Test.YthkpdodhkgdiaaaMem
namespace Go.Proofs.Ythkpdodhkgdiaaa
set_option linter.unusedVariables false
open Go.RowKit

/-- a function with a body of the program's own is entered -/
def Ent (f : FuncId) : Prop := ∀ (args : Array Value) (w : World), (callFunc f args).run Try.prog w = .ok (.enter f args) w

end Go.Proofs.Ythkpdodhkgdiaaa
