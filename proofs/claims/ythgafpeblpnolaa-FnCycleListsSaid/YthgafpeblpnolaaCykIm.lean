/-
  CountCycleTables: what the program's computes; both alike.
  No condition but bounds.
-/
import Derived.Test.YthgafpeblpnolaaBase2
import Derived.Test.YthgafpeblpnolaaBase3
import Derived.Test.YthgafpeblpnolaaCykP
namespace Go.Proofs.Ythgafpeblpnolaa
set_option maxRecDepth 100000
set_option linter.unusedVariables false
set_option linter.unusedSimpArgs false
open Go.RowKit

theorem cycleRows_fit {N : Nat} (h4 : N ≤ 4) : FitH 30 #[] (cycR N) N :=
  ⟨enters_of Try.func30 (by kernel_rfl) rfl, fun w a k c rows h hk hp => cycleRows_any N a k c rows w h hk (by omega) hp⟩

set_option maxHeartbeats 4000000 in
theorem impl_Cyk_l (x : Int) (w : World) (hx : I64 x) :
    Calls Try.prog 14 #[.int .i64 x] w (RetI w (cykF x).1 (cykF x).2) := by
  have hin := fun w => within_any x 1 4 w
  by_cases h : 1 ≤ x ∧ x ≤ 4
  · obtain ⟨n, rfl⟩ : ∃ n : Nat, x = n := ⟨x.toNat, by omega⟩
    obtain ⟨K, HK⟩ : ∃ K : Nat, Hid ((trnN n).length = K) := ⟨_, rfl⟩
    have hq : cykF n = ((K : Int), 0) := by unfold cykF; rw [if_pos h, Int.toNat_natCast, HK.out]
    rw [hq]
    clear hq
    have hd : (decide ((1 : Int) ≤ n) && decide ((n : Int) ≤ 4)) = true := by simp; omega
    rw [hd] at hin
    have HIN := Lib.hid hin
    clear hin hd
    have h1 : 1 ≤ n := by omega
    have h4 : n ≤ 4 := by omega
    clear h
    go_enter Try.func14, Try.ntmps14
    go_wp2_with fail
    refine (HIN.out _).mono ?_
    rintro e w1 ⟨rfl, rfl⟩
    go_wp2_with fail
    refine (rowTables_any n _ _ (cycR n) _ h1 h4 (cycleRows_fit h4)).mono ?_
    rintro e w2 ⟨a, k, c, us, rfl, ht, hb⟩
    obtain rfl : K = k := by rw [← HK.out, ← cyk_eq ⟨n, by omega⟩ h1]; exact ht.len.symm
    go_wp2
    go_ret2
    exact ⟨rfl, hb⟩
  · have hq : cykF x = (0, 2) := by unfold cykF; rw [if_neg h]
    rw [hq]
    clear hq
    have hd : (decide ((1 : Int) ≤ x) && decide (x ≤ 4)) = false := by simp; omega
    rw [hd] at hin
    have HIN := Lib.hid hin
    clear hin hd
    go_enter Try.func14, Try.ntmps14
    go_wp2_with fail
    refine (HIN.out _).mono ?_
    rintro e w1 ⟨rfl, rfl⟩
    go_wp2
    go_ret2
    exact ⟨rfl, Below.refl _ _⟩
end Go.Proofs.Ythgafpeblpnolaa
