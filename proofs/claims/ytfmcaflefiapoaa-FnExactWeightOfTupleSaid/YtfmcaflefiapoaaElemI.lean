/-
  Whether numbers are elements: what the program's check answers.
  No condition but bounds on lengths.
-/
import Derived.Test.YtfmcaflefiapoaaActI
namespace Go.Proofs.Ytfmcaflefiapoaa
set_option maxRecDepth 100000
set_option linter.unusedVariables false
set_option linter.unusedSimpArgs false
open Go.RowKit

theorem less_all {n : Nat} {l : List Int} (h : l.all (rngB 0 ((n : Int) - 1)) = true) : Less n l := by
  intro i hi
  have := List.all_eq_true.1 h l[i] (List.getElem_mem hi)
  unfold rngB at this
  simp at this
  refine ⟨(l.getD i 0).toNat, ?_, ?_⟩ <;> rw [getD_eq_at hi] <;> omega
theorem areElements_any (n : Nat) (a : Option Addr) (m c : Nat) (l : List Int) (w : World) (h1 : Row w a m l) (hm : m ≤ 9223372036854775807) (hn : n ≤ 1000000) :
    Calls Try.prog 59 #[.int .i64 n, .slice a m c] w fun e w' => e = .returned (.bool (l.all (rngB 0 ((n : Int) - 1)))) ∧ w = w' := by
  have HA := Lib.hid (allWithin_any a m c l 0 ((n : Int) - 1) w h1 hm)
  go_enter Try.func59, Try.ntmps59
  go_wp2_with fail
  refine HA.out.mono ?_
  rintro e w' ⟨rfl, rfl⟩
  go_wp2
  go_ret
  exact ⟨rfl, rfl⟩

end Go.Proofs.Ytfmcaflefiapoaa
