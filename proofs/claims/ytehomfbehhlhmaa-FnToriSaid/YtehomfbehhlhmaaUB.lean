/-
  Braids, as the laws' walks take them.
  No condition but bounds on lengths.
-/
import Derived.Test.YtehomfbehhlhmaaU
namespace Go.Proofs.Ytehomfbehhlhmaa
set_option maxRecDepth 100000
set_option linter.unusedVariables false
set_option linter.unusedSimpArgs false
open Go.RowKit

section
variable {w w' : World} {lo : Nat} {s : Int} {a a1 a2 : Option Addr} {n n1 n2 c c1 c2 : Nat} {xs : List Int}
theorem eqBraid_u (h1 : Row w a1 n1 xs) (h2 : Row w a2 n2 xs) (hm : n1 ≤ 9223372036854775807) : Calls Try.prog 16 #[bAgg s a1 n1 c1, bAgg s a2 n2 c2] w fun e w' => e = .returned (.bool true) ∧ Below w.heap.size w w' :=
  eqBraid_same s a1 a2 n1 n2 c1 c2 xs w h1 h2 hm
theorem markBraid_u {k0 : Int} (h : Own w lo a n c xs) (hk0 : 0 ≤ k0) (hm : k0 + n ≤ 9000000000000000000) : Calls Try.prog 17 #[bAgg s a n c, .int .i64 k0] w fun e w' => e = .returned (.int .i64 (k0 + n)) ∧ Own w' lo a n c (markL k0 n) ∧ Marked (RowS a) w w' :=
  markBraid_any s a n c lo xs k0 w h hk0 hm
theorem heldBraid_u {k0 : Int} (h : Row w a n (markL k0 n)) (hk0 : 0 ≤ k0) (hm : k0 + n ≤ 9000000000000000000) : Calls Try.prog 18 #[bAgg s a n c, .int .i64 k0] w fun e w' => e = .returned (.int .i64 (k0 + n)) ∧ Below w.heap.size w w' :=
  heldBraid_any s a n c k0 w h hk0 hm
end
end Go.Proofs.Ytehomfbehhlhmaa
