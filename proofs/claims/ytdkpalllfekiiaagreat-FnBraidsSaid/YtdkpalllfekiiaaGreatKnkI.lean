/-
  The kink of a rack, and is it the identity: what the program's functions compute.
  No condition but bounds.
-/
import Derived.Test.YtdkpalllfekiiaaGreatBase3
import Derived.Test.YtdkpalllfekiiaaGreatBase
namespace Go.Proofs.YtdkpalllfekiiaaGreat
set_option maxRecDepth 100000
set_option linter.unusedVariables false
set_option linter.unusedSimpArgs false
open Go.RowKit

set_option maxHeartbeats 1000000 in
theorem increasing_any (a : Option Addr) (n c : Nat) (xs : List Int) (w : World) (h : Row w a n xs) (hm : n ≤ 1000000) :
    Calls Tryz.prog 87 #[.slice a n c] w fun e w' => e = .returned (.bool (incOk xs)) ∧ ∃ k, w' = w.drewN k := by
  have HL := Lib.hid h.len
  go_enter Tryz.func87, Tryz.ntmps87
  go_wp2
  go_loopw [3] (fun i wr => ∃ k : Nat, i = .int .i64 ((k + 1 : Nat) : Int) ∧ Hid (∀ j, j < k → j + 1 < n → xs.getD j 0 < xs.getD (j + 1) 0) ∧ ∃ m, wr = w.drewN m) (fun i _ => n - (intOf i).toNat)
  case atStart => exact ⟨0, rfl, Lib.hid fun j hj => absurd hj (by omega), 0, rfl⟩
  case round =>
    obtain ⟨k, rfl, hI, m, rfl⟩ := hrel
    by_cases hlt : k + 1 < n
    · obtain ⟨b1, o1, rfl, g1⟩ := h.at k (by omega)
      obtain ⟨b2, o2, e2, g2⟩ := h.at (k + 1) hlt
      cases e2
      have i1 : IntKind.i64.wrap (((k + 1 : Nat) : Int) - 1) = (k : Int) := (IntWalk.i64_in _ (by omega)).trans (by omega)
      have i2 : (0 : Int) ≤ (k : Int) := by omega
      have i3 : (k : Int) < (n : Int) := by omega
      have i4 : (0 : Int) ≤ ((k + 1 : Nat) : Int) := by omega
      have i5 : ((k + 1 : Nat) : Int) < (n : Int) := by omega
      have i6 : (((k + 1 : Nat) : Int)).toNat = k + 1 := by omega
      clear h
      generalize hX : xs.getD k 0 = X at *
      generalize hY : xs.getD (k + 1) 0 = Y at *
      have HX := Lib.hid hX; have HY := Lib.hid hY
      clear hX hY
      have HI2 : Hid (((k + 1 : Nat) : Int) = ((k + 1 : Nat) : Int)) := Lib.hid rfl
      generalize hK : ((k + 1 : Nat) : Int) = K at *
      have HK := Lib.hid hK
      clear hK
      go_wp2
      go_quiet (fail)
      by_cases hge : X ≥ Y
      · go_wp2
        go_ret
        refine ⟨ret_bool ?_, m + nq, by rw [World.drewN_drewN]⟩
        rw [eq_comm]
        exact allN_no (k := k) (by have := HL.out; omega) (by rw [HX.out, HY.out]; simpa using hge)
      · go_wp2
        go_roundw
        case rel =>
          refine ⟨k + 1, by rw [← HK.out]; go_num, Lib.hid fun j hj hj2 => ?_, m + nq, rfl⟩
          by_cases e : j = k
          · subst e; rw [HX.out, HY.out]; omega
          · exact hI.out j (by omega) hj2
        case measure => rw [← HK.out] at *; simp [intOf]; omega
    · go_wp2
      go_ret
      refine ⟨ret_bool ?_, _, rfl⟩
      rw [eq_comm]
      exact allN_mk fun j hj => decide_eq_true (hI.out j (by have := HL.out; omega) (by have := HL.out; omega))

theorem isIdentity_any (a : Option Addr) (n c : Nat) (xs : List Int) (w : World) (h : Row w a n xs) (hm : n ≤ 1000000) :
    Calls Tryz.prog 63 #[.slice a n c] w fun e w' => e = .returned (.bool (incOk xs)) ∧ Below w.heap.size w w' := by
  go_enter Tryz.func63, Tryz.ntmps63
  go_wp2_with fail
  refine (increasing_any _ _ _ xs _ h hm).mono ?_
  rintro e w1 ⟨rfl, k, rfl⟩
  go_wp2
  go_ret
  exact ⟨rfl, below_drewN (Below.refl _ _) k⟩

theorem knk_step (n : Nat) (t : List (List Int)) (j : Nat) (h : j < n) : ((knkL n t).take j ++ List.replicate (n - j) 0).set j ((tv t j j : Nat) : Int) = (knkL n t).take (j + 1) ++ List.replicate (n - (j + 1)) 0 := rowP_step n (fun x => ((tv t x x : Nat) : Int)) j h
end Go.Proofs.YtdkpalllfekiiaaGreat
