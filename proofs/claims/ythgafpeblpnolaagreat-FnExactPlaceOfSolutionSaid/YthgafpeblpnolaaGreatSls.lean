/-
  CountSolutionTables: what the reference's and the program's compute.
  No condition but bounds.
-/
import Derived.Test.YthgafpeblpnolaaGreatSlsI
import Derived.Test.YthgafpeblpnolaaGreatSlsS
import Derived.Test.YthgafpeblpnolaaGreatBase2
namespace Go.Proofs.YthgafpeblpnolaaGreat
set_option maxRecDepth 100000
set_option linter.unusedVariables false
set_option linter.unusedSimpArgs false
open Go.RowKit

/-- what CountSolutionTables answers -/
def slsF (x : Int) : Int × Int := if 1 ≤ x ∧ x ≤ 3 then (((solL x.toNat).length : Int), 0) else (0, 2)
theorem slsL_bd {n : Nat} (h1 : 1 ≤ n) (h3 : n ≤ 3) : (solL n).length ≤ 1000000 := by
  have h := solL_len n
  have hl := allT_len ⟨n, by omega⟩ h1
  simp only at hl
  have := Nat.mul_le_mul (show (allT (prmL n) n []).length ≤ 216 by omega) (show (allT (prmL n) n []).length ≤ 216 by omega)
  omega
set_option maxHeartbeats 4000000 in
theorem impl_Sls_l (x : Int) (w : World) (hx : I64 x) :
    Calls Tryz.prog 30 #[.int .i64 x] w (RetI w (slsF x).1 (slsF x).2) := by
  have hin := fun w => within_any x 1 3 w
  by_cases h : 1 ≤ x ∧ x ≤ 3
  · obtain ⟨n, rfl⟩ : ∃ n : Nat, x = n := ⟨x.toNat, by omega⟩
    obtain ⟨K, HK⟩ : ∃ K : Nat, Hid ((solL n).length = K) := ⟨_, rfl⟩
    have hq : slsF n = ((K : Int), 0) := by unfold slsF; rw [if_pos h, Int.toNat_natCast, HK.out]
    rw [hq]
    clear hq
    have hd : (decide ((1 : Int) ≤ n) && decide ((n : Int) ≤ 3)) = true := by simp; omega
    rw [hd] at hin
    have HIN := Lib.hid hin
    clear hin hd
    have h1 : 1 ≤ n := by omega
    have h4 : n ≤ 3 := by omega
    clear h
    go_enter Tryz.func30, Tryz.ntmps30
    go_wp2_with fail
    refine (HIN.out _).mono ?_
    rintro e w1 ⟨rfl, rfl⟩
    go_wp2_with fail
    refine (solutionTables_any n _ h1 h4).mono ?_
    rintro e w2 ⟨a, k, c, us, rfl, ht, hb⟩
    obtain rfl : K = k := by rw [← HK.out]; exact ht.len.symm
    go_wp2
    go_ret2
    exact ⟨rfl, hb⟩
  · have hq : slsF x = (0, 2) := by unfold slsF; rw [if_neg h]
    rw [hq]
    clear hq
    have hd : (decide ((1 : Int) ≤ x) && decide (x ≤ 3)) = false := by simp; omega
    rw [hd] at hin
    have HIN := Lib.hid hin
    clear hin hd
    go_enter Tryz.func30, Tryz.ntmps30
    go_wp2_with fail
    refine (HIN.out _).mono ?_
    rintro e w1 ⟨rfl, rfl⟩
    go_wp2
    go_ret2
    exact ⟨rfl, Below.refl _ _⟩
end Go.Proofs.YthgafpeblpnolaaGreat
