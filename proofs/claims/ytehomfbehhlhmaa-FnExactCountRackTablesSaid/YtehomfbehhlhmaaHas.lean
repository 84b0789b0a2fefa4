/-
  Whether a number is in a list: the reference's questions.
  No condition but bounds on lengths.
-/
import Derived.Test.YtehomfbehhlhmaaSame
namespace Go.Proofs.Ytehomfbehhlhmaa
set_option maxRecDepth 100000
set_option linter.unusedVariables false
set_option linter.unusedSimpArgs false
open Go.RowKit

set_option maxHeartbeats 1000000 in
theorem l01Index_any (a : Option Addr) (n c : Nat) (xs : List Int) (y : Int) (w : World) (h1 : Row w a n xs) (hm : n ≤ 1000000000000) :
    Calls Try.prog 219 #[.slice a n c, .int .i64 y] w fun e w' => ∃ r : Int, e = .returned (.int .i64 r) ∧ decide (0 ≤ r) = decide (y ∈ xs) ∧ w = w' := by
  have hl := h1.len
  have HL := Lib.hid hl; clear hl
  go_enter Try.func219, Try.ntmps219
  go_wp2
  go_loop [5] (fun i => ∃ k : Nat, k ≤ n ∧ i = .int .i64 k ∧ Hid (y ∉ xs.take k)) (fun i => n - (intOf i).toNat)
  case atStart => exact ⟨0, Nat.zero_le _, rfl, by simp [Hid]⟩
  case round =>
    obtain ⟨k, hk, rfl, hno⟩ := hrel
    by_cases hlt : k < n
    · obtain ⟨b, off, rfl, g1⟩ := h1.at k hlt
      have hx : k < xs.length := by have := HL.out; omega
      rw [getD_eq_at hx] at g1
      obtain ⟨X, hX⟩ : ∃ X, X = xs[k] := ⟨_, rfl⟩
      rw [← hX] at g1
      by_cases he : X = y
      · have hmem : y ∈ xs := by rw [← he, hX]; exact List.getElem_mem hx
        have HMm := Lib.hid hmem
        clear hmem hX
        subst he
        go_wp2
        go_ret
        exact ⟨_, rfl, by have := HMm.out; simp [this], rfl⟩
      · have hno2 : y ∉ xs.take (k + 1) := by
          rw [List.take_succ_eq_append_getElem hx]
          simp only [List.mem_append, List.mem_singleton, not_or]
          exact ⟨hno, fun e => he (hX.trans e.symm)⟩
        have HN := Lib.hid hno2
        have hb : (X == y) = false := by simpa using he
        clear hno2 hX
        go_wp2
        go_round
        case rel => exact ⟨k + 1, by omega, by go_num, HN⟩
        case measure => simp [intOf]; omega
    · obtain rfl : k = n := by omega
      have hno' : y ∉ xs := by
        have h := hno
        rw [List.take_of_length_le (by have := HL.out; omega)] at h
        exact h
      have HN := Lib.hid hno'; clear hno'
      go_wp2
      go_ret
      exact ⟨-1, rfl, by have := HN.out; simp [this], rfl⟩

theorem l01Has_any (a : Option Addr) (n c : Nat) (xs : List Int) (y : Int) (w : World) (h1 : Row w a n xs) (hm : n ≤ 1000000000000) :
    Calls Try.prog 198 #[.slice a n c, .int .i64 y] w fun e w' => e = .returned (.bool (decide (y ∈ xs))) ∧ w = w' := by
  go_enter Try.func198, Try.ntmps198
  go_wp2_with fail
  refine (l01Index_any _ _ _ xs y _ h1 hm).mono ?_
  rintro e w' ⟨r, rfl, hr, rfl⟩
  have HR := Lib.hid hr; clear hr
  go_wp2
  go_ret
  exact ⟨ret_bool HR.out, rfl⟩


end Go.Proofs.Ytehomfbehhlhmaa
