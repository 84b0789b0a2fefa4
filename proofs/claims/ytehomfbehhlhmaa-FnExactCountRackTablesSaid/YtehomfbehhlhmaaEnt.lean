/-
  A function value of the program's own is entered.
  No condition.
-/
import Derived.Test.YtehomfbehhlhmaaMem
namespace Go.Proofs.Ytehomfbehhlhmaa
set_option linter.unusedVariables false
open Go.RowKit

/-- a function with a body of the program's own is entered -/
def Ent (f : FuncId) : Prop := ∀ (args : Array Value) (w : World), (callFunc f args).run Try.prog w = .ok (.enter f args) w

end Go.Proofs.Ytehomfbehhlhmaa
