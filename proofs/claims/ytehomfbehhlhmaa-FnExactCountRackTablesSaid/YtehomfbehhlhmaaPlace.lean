/-
  The place of a letter: what the program's and the reference's functions compute.
  No condition but bounds.
-/
import Derived.Test.YtehomfbehhlhmaaMem
namespace Go.Proofs.Ytehomfbehhlhmaa
set_option maxRecDepth 100000
set_option linter.unusedVariables false
set_option linter.unusedSimpArgs false
open Go.RowKit

/-- the place of a letter -/
def plc (x : Int) : Int := if x < 0 then -x - 1 else x - 1
def sgn (x : Int) : Int := if x < 0 then -1 else 1

theorem l16Place_any (x : Int) (w : World) (h1 : -1000 ≤ x) (h2 : x ≤ 1000) :
    Calls Try.prog 106 #[.int .i64 x] w fun e w' => e = .returned (.int .i64 (plc x)) ∧ w' = w := by
  by_cases h : x < 0
  · have HE := Lib.hid (show plc x = -x - 1 from if_pos h)
    go_enter Try.func106, Try.ntmps106
    go_wp2
    go_ret
    exact ⟨ret_int HE.out.symm, rfl⟩
  · have HE := Lib.hid (show plc x = x - 1 from if_neg h)
    go_enter Try.func106, Try.ntmps106
    go_wp2
    go_ret
    exact ⟨ret_int HE.out.symm, rfl⟩

theorem signOf_any (x : Int) (w : World) :
    Calls Try.prog 101 #[.int .i64 x] w fun e w' => e = .returned (.int .i64 (sgn x)) ∧ w' = w := by
  by_cases h : x < 0
  · have HE := Lib.hid (show sgn x = -1 from if_pos h)
    go_enter Try.func101, Try.ntmps101
    go_wp2
    go_ret
    exact ⟨ret_int HE.out.symm, rfl⟩
  · have HE := Lib.hid (show sgn x = 1 from if_neg h)
    go_enter Try.func101, Try.ntmps101
    go_wp2
    go_ret
    exact ⟨ret_int HE.out.symm, rfl⟩

theorem placeOf_any (x : Int) (w : World) (h1 : -1000 ≤ x) (h2 : x ≤ 1000) :
    Calls Try.prog 100 #[.int .i64 x] w fun e w' => e = .returned (.int .i64 (plc x)) ∧ w' = w := by
  have hp : plc x = x * sgn x - 1 := by unfold plc sgn; split <;> omega
  have hb : -1000 ≤ x * sgn x ∧ x * sgn x ≤ 1000 := by unfold sgn; split <;> omega
  have HP := Lib.hid hp; clear hp
  go_enter Try.func100, Try.ntmps100
  go_wp2_with fail
  refine (signOf_any _ _).mono ?_
  rintro e w' ⟨rfl, hw⟩
  subst hw
  go_wp2
  go_ret
  exact ⟨ret_int HP.out.symm, rfl⟩

end Go.Proofs.Ytehomfbehhlhmaa
