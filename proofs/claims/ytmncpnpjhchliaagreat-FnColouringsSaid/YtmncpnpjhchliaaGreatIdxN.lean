/-
  Where a number is in a list: the program's question.
  No condition but bounds on lengths.
-/
import Derived.Test.YtmncpnpjhchliaaGreatBase
namespace Go.Proofs.YtmncpnpjhchliaaGreat
set_option maxRecDepth 100000
set_option linter.unusedVariables false
set_option linter.unusedSimpArgs false
open Go.RowKit

set_option maxHeartbeats 1000000 in
theorem indexN_any (a : Option Addr) (n c q : Nat) (xs : List Int) (y : Int) (w : World) (h1 : Row w a n xs) (hm : n ≤ 1000000000000) (hq : q < n) (he : xs.getD q 0 = y) (hno : ∀ i, i < q → xs.getD i 0 ≠ y) :
    Calls Tryz.prog 135 #[.slice a n c, .int .i64 y] w fun e w' => e = .returned (.int .i64 q) ∧ w = w' := by
  have HNO := Lib.hid hno; clear hno
  have HE := Lib.hid he; clear he
  go_enter Tryz.func135, Tryz.ntmps135
  go_wp2
  go_loop [8] (fun i => ∃ k : Nat, k ≤ q ∧ i = .int .i64 k) (fun i => q + 1 - (intOf i).toNat)
  case atStart => exact ⟨0, Nat.zero_le _, rfl⟩
  case round =>
    obtain ⟨k, hk, rfl⟩ := hrel
    have hlt : k < n := by omega
    obtain ⟨b, off, rfl, g1⟩ := h1.at k hlt
    have i1 : (0 : Int) ≤ (k : Int) := by omega
    have i2 : (k : Int) < (n : Int) := by omega
    obtain ⟨X, HX⟩ : ∃ X, Hid (xs.getD k 0 = X) := ⟨_, rfl⟩
    rw [HX.out] at g1
    by_cases e : k = q
    · subst e
      have e2 : y = X := by rw [← HE.out, HX.out]
      subst e2
      go_wp2
      go_ret
      exact ⟨rfl, rfl⟩
    · have hne : (y == X) = false := by
        have := HNO.out k (by omega)
        rw [HX.out] at this
        simpa using fun h => this h.symm
      go_wp2
      go_round
      case rel => exact ⟨k + 1, by omega, by go_num⟩
      case measure => simp [intOf]; omega

set_option maxHeartbeats 1000000 in
theorem indexIn_any (a : Option Addr) (n c q : Nat) (xs : List Int) (y : Int) (w : World) (h1 : Row w a n xs) (hm : n ≤ 1000000000000) (hq : q < n) (he : xs.getD q 0 = y) (hno : ∀ i, i < q → xs.getD i 0 ≠ y) :
    Calls Tryz.prog 92 #[.slice a n c, .int .i64 y] w fun e w' => e = .returned (.int .i64 q) ∧ w = w' := by
  go_enter Tryz.func92, Tryz.ntmps92
  go_wp2_with fail
  refine (indexN_any a n c q xs y _ h1 hm hq he hno).mono ?_
  rintro e w1 ⟨rfl, rfl⟩
  go_wp2
  go_ret
  exact ⟨rfl, rfl⟩
end Go.Proofs.YtmncpnpjhchliaaGreat
