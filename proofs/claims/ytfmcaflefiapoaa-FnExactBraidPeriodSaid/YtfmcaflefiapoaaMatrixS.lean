/-
  Matrices modulo m: what the reference's questions answer.
  No condition but bounds on lengths.
-/
import Derived.Test.YtfmcaflefiapoaaMatrix
namespace Go.Proofs.Ytfmcaflefiapoaa
set_option maxRecDepth 100000
set_option linter.unusedVariables false
set_option linter.unusedSimpArgs false
open Go.RowKit

set_option maxHeartbeats 400000 in
theorem l14Numbers_any (N m : Int) (a : Option Addr) (n c : Nat) (xs : List Int) (w : World) (h1 : Row w a n xs) (hm : n ≤ 9223372036854775807) (hm1 : 1 ≤ m) (hm2 : m ≤ 12) :
    Calls Try.prog 54 #[.int .i64 N, .int .i64 m, .slice a n c] w fun e w' => e = .returned (.bool (rowOk N m xs)) ∧ w = w' := by
  have hl := h1.len
  have HL := Lib.hid hl; clear hl
  go_enter Try.func54, Try.ntmps54
  go_wp2
  go_loop [7] (fun i => ∃ k : Nat, k ≤ n ∧ i = .int .i64 k ∧ Hid ((xs.take k).all (rngB 0 (m - 1)) = true)) (fun i => n - (intOf i).toNat)
  case atStart => exact ⟨0, Nat.zero_le _, rfl, by simp [Hid]⟩
  case round =>
    obtain ⟨k, hk, rfl, hall⟩ := hrel
    by_cases hlt : k < n
    · obtain ⟨b, off, rfl, g1⟩ := h1.at k hlt
      have hx : k < xs.length := by have := HL.out; omega
      clear h1
      cases hp : rngB 0 (m - 1) xs[k] with
      | true =>
        have HC := Lib.hid (fun w => l01In_b xs[k] 0 (m - 1) true hp w)
        have HP := Lib.hid hp; clear hp
        go_wp2_with fail
        refine (HC.out _).mono ?_
        rintro e w' ⟨rfl, rfl⟩
        go_wp2
        go_round
        case rel => exact ⟨k + 1, by omega, by go_num, all_get_succ hx hall HP.out⟩
        case measure => simp [intOf]; omega
      | false =>
        have HC := Lib.hid (fun w => l01In_b xs[k] 0 (m - 1) false hp w)
        have HP := Lib.hid hp; clear hp
        go_wp2_with fail
        refine (HC.out _).mono ?_
        rintro e w' ⟨rfl, rfl⟩
        go_wp2
        go_ret
        have hno : rowOk N m xs = false := by
          unfold rowOk; rw [all_no hx HP.out]; simp
        exact ⟨ret_bool hno.symm, rfl⟩
    · obtain rfl : k = n := by omega
      have ha : (xs.take k).all (rngB 0 (m - 1)) = true := hall
      rw [List.take_of_length_le (by have := HL.out; omega)] at ha
      have hq : rowOk N m xs = decide ((k : Int) = N) := by unfold rowOk; rw [ha, HL.out]; simp
      have HQ := Lib.hid hq; clear ha hq
      go_wp2
      go_ret
      exact ⟨ret_bool (by rw [HQ.out]; rfl), rfl⟩

set_option maxHeartbeats 400000 in
theorem l14Matrix_any (N m : Int) (a : Option Addr) (n c : Nat) (xs : List (List Int)) (w : World) (h1 : Tbl w a n xs) (hm : n ≤ 9223372036854775807) (hm1 : 1 ≤ m) (hm2 : m ≤ 12) :
    Calls Try.prog 114 #[.int .i64 N, .int .i64 m, .slice a n c] w fun e w' => e = .returned (.bool (isMx N m xs)) ∧ w = w' := by
  have hl := h1.len
  have hp : rngB 1 12 m = true := by simp [rngB, hm1, hm2]
  by_cases hn : (n : Int) = N
  · have b1 : ((n : Int) != N) = false := by simpa using hn
    have hq : isMx N m xs = xs.all (rowOk N m) := by simp [isMx, hp, ← hl, hn]
    have HQ := Lib.hid hq
    have HL := Lib.hid hl; clear hl hn hp hq
    go_enter Try.func114, Try.ntmps114
    go_wp2
    go_loop [7] (fun i => ∃ k : Nat, k ≤ n ∧ i = .int .i64 k ∧ Hid ((xs.take k).all (rowOk N m) = true)) (fun i => n - (intOf i).toNat)
    case atStart => exact ⟨0, Nat.zero_le _, rfl, by simp [Hid]⟩
    case round =>
      obtain ⟨k, hk, rfl, hall⟩ := hrel
      by_cases hlt : k < n
      · obtain ⟨b, off, ai, ni, ci, rfl, g1, hri, hni⟩ := h1.at k hlt
        have hx : k < xs.length := by have := HL.out; omega
        rw [Tbl.getD hx] at hri
        have hc := l14Numbers_any N m ai ni ci xs[k] w hri hni hm1 hm2
        clear h1
        cases hp : rowOk N m xs[k] with
        | true =>
          rw [hp] at hc
          have HC := Lib.hid hc
          have HP := Lib.hid hp; clear hp hc
          go_wp2_with fail
          refine HC.out.mono ?_
          rintro e w' ⟨rfl, rfl⟩
          go_wp2
          go_round
          case rel => exact ⟨k + 1, by omega, by go_num, all_get_succ hx hall HP.out⟩
          case measure => simp [intOf]; omega
        | false =>
          rw [hp] at hc
          have HC := Lib.hid hc
          have HP := Lib.hid hp; clear hp hc
          go_wp2_with fail
          refine HC.out.mono ?_
          rintro e w' ⟨rfl, rfl⟩
          go_wp2
          go_ret
          exact ⟨ret_bool (by rw [HQ.out]; exact (all_no hx HP.out).symm), rfl⟩
      · obtain rfl : k = n := by omega
        have ha : (xs.take k).all (rowOk N m) = true := hall
        rw [List.take_of_length_le (by have := HL.out; omega)] at ha
        have HA := Lib.hid ha; clear ha
        go_wp2
        go_ret
        exact ⟨ret_bool (by rw [HQ.out]; exact HA.out.symm), rfl⟩
  · have b1 : ((n : Int) != N) = true := by simpa using hn
    have hq : isMx N m xs = false := by simp [isMx, ← hl, hn]
    have HQ := Lib.hid hq; clear hq hl hn hp
    go_enter Try.func114, Try.ntmps114
    go_wp2
    go_ret
    exact ⟨ret_bool HQ.out.symm, rfl⟩

set_option maxHeartbeats 400000 in
theorem l14Code_any (N m : Int) (a : Option Addr) (n c : Nat) (xs : List (List Int)) (w : World) (h1 : Tbl w a n xs) (hm : n ≤ 9223372036854775807) (r : Int) (hr : (if isMx N m xs then 0 else 2) = r) :
    Calls Try.prog 84 #[.int .i64 N, .int .i64 m, .slice a n c] w fun e w' => e = .returned (.int .i64 r) ∧ w = w' := by
  cases hp : rngB 1 12 m with
  | false =>
    have hq : isMx N m xs = false := by simp [isMx, hp]
    rw [hq] at hr
    simp only [Bool.false_eq_true, if_false] at hr
    subst hr
    have HC := Lib.hid (fun w => l01In_b m 1 12 false hp w); clear hp hq
    go_enter Try.func84, Try.ntmps84
    go_wp2_with fail
    refine (HC.out _).mono ?_
    rintro e w' ⟨rfl, rfl⟩
    go_wp2
    go_ret
    exact ⟨rfl, rfl⟩
  | true =>
    have hmm : 1 ≤ m ∧ m ≤ 12 := by simpa [rngB] using hp
    have HC := Lib.hid (fun w => l01In_b m 1 12 true hp w); clear hp
    have hc := fun w h => l14Matrix_any N m a n c xs w h hm hmm.1 hmm.2
    cases hq : isMx N m xs with
    | true =>
      rw [hq] at hr hc
      simp only [if_true] at hr
      subst hr
      have HD := Lib.hid hc; clear hc hq
      go_enter Try.func84, Try.ntmps84
      go_wp2_with fail
      refine (HC.out _).mono ?_
      rintro e w' ⟨rfl, rfl⟩
      go_wp2_with fail
      refine (HD.out _ h1).mono ?_
      rintro e w' ⟨rfl, rfl⟩
      go_wp2
      go_ret
      exact ⟨rfl, rfl⟩
    | false =>
      rw [hq] at hr hc
      simp only [Bool.false_eq_true, if_false] at hr
      subst hr
      have HD := Lib.hid hc; clear hc hq
      go_enter Try.func84, Try.ntmps84
      go_wp2_with fail
      refine (HC.out _).mono ?_
      rintro e w' ⟨rfl, rfl⟩
      go_wp2_with fail
      refine (HD.out _ h1).mono ?_
      rintro e w' ⟨rfl, rfl⟩
      go_wp2
      go_ret
      exact ⟨rfl, rfl⟩

end Go.Proofs.Ytfmcaflefiapoaa
