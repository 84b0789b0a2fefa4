/-
  The law of braces: with the reference's draw of a brace.
  No condition.
-/
import Derived.Test.YtiliimkfobfbnaaGreatFnTopLaw
import Derived.Test.YtiliimkfobfbnaaGreatPt37
namespace Go.Proofs.YtiliimkfobfbnaaGreat
set_option maxRecDepth 100000
set_option linter.unusedVariables false
set_option linter.unusedSimpArgs false
open Go.RowKit
theorem law_Top (a : Option Addr) (m c : Nat) (xs : List Int) (w : World) (h : Bts w a m xs) (hn : m ≤ 9223372036854775807) :
    Calls Tryz.prog 3 #[.slice a m c] w fun e w' => e = .returned (.bool true) ∧ Below w.heap.size w w' :=
  law_Top_of (Lib.hid fun a n c xs w h hn => DrawBraceSolution_ok a n c xs w h hn) a m c xs w h hn
end Go.Proofs.YtiliimkfobfbnaaGreat
