/-
  The walk of the law of CountSolutionTables: it answers true.
  No condition.
-/
import Derived.Test.YtehomfbehhlhmaaSls
import Derived.Test.YtehomfbehhlhmaaBase
import Derived.Deep.RegionHeld3
namespace Go.Proofs.Ytehomfbehhlhmaa
set_option maxRecDepth 100000
set_option linter.unusedVariables false
set_option linter.unusedSimpArgs false
open Go.RowKit

set_option maxHeartbeats 8000000 in
theorem law_Sls_small (w : World) (x_0 : Int) (h0_0 : I64 x_0)  : Calls Try.prog 7 #[.int .i64 x_0] w fun e w' => e = .returned (.bool true) ∧ Below w.heap.size w w' := by
  obtain ⟨rd, code, HS, HI⟩ : ∃ (rd : Int) (code : Int), Hid (∀ (w' : World) , Calls Try.prog 32 #[.int .i64 x_0] w' (RetI w' rd code)) ∧ Hid (∀ (w' : World) , Calls Try.prog 33 #[.int .i64 x_0] w' (RetI w' rd code)) :=
    ⟨_, _, Lib.hid fun w'  => spec_Sls_l x_0 w' h0_0, Lib.hid fun w'  => impl_Sls_l x_0 w' h0_0⟩
  have hne : (code != code) = false := by simp
  have hne0 : (rd != rd) = false := by simp
  go_enter Try.func7, Try.ntmps7
  have hB : Below w.heap.size w w := Below.refl _ _
  go_wp2_with fail
  refine (HS.out _  ).mono ?_
  rintro e w1 ⟨rfl, hbw1⟩
  have zw1 : w.heap.size ≤ w1.heap.size := hbw1.size
  replace hB := below_th hB hbw1
  go_wp2_with fail
  refine (HI.out _  ).mono ?_
  rintro e w2 ⟨rfl, hbw2⟩
  have zw2 : w1.heap.size ≤ w2.heap.size := hbw2.size
  replace hB := below_th hB hbw2
  go_wp2_with fail
  go_ret
  exact ⟨rfl, hB⟩

theorem law_Sls (w : World) (x_0 : Int) (h0_0 : I64 x_0) : Calls Try.prog 7 #[.int .i64 x_0] w fun e w' => e = .returned (.bool true) ∧ Below w.heap.size w w' := by
  exact law_Sls_small w x_0 h0_0 

end Go.Proofs.Ytehomfbehhlhmaa
