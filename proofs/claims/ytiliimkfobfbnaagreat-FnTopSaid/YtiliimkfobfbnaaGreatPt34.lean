/-
  Walks and plain laws of this seat, some texts in one.
  No condition but bounds on lengths.
-/
import Derived.Test.YtiliimkfobfbnaaGreatPt33
namespace Go.Proofs.YtiliimkfobfbnaaGreat
set_option maxRecDepth 100000
set_option linter.unusedVariables false
set_option linter.unusedSimpArgs false
open Go.RowKit
def cycT (n : Nat) : List (List Int) := tabF n fun x y => ((cycV n x y : Nat) : Int)
def dblT (n sh : Nat) : List (List Int) := tabF (2 * n) fun x y => ((dblV n sh x y : Nat) : Int)
def proT (n m : Nat) (s t : List (List Int)) : List (List Int) := tabF (n * m) fun x y => ((proV m s t x y : Nat) : Int)
def nmdL (n : Nat) : List (List (List Int)) := [cycT n] ++ (if n = 4 then [proT 2 2 (cycT 2) (cycT 2)] else if n = 8 then [proT 2 4 (cycT 2) (cycT 4), proT 2 4 (cycT 2) (proT 2 2 (cycT 2) (cycT 2))] else []) ++ (if 6 ≤ n ∧ n % 2 = 0 then [dblT (n / 2) 0] else []) ++ if n = 8 then [dblT 4 2] else []
theorem ok_1 : okD (cycT 1) 1 = true := by decide +kernel
theorem ok_2 : okD (cycT 2) 2 = true := by decide +kernel
theorem ok_3 : okD (cycT 3) 3 = true := by decide +kernel
theorem ok_4 : okD (cycT 4) 4 = true := by decide +kernel
theorem ok_4b : okD (proT 2 2 (cycT 2) (cycT 2)) 4 = true := by decide +kernel
theorem ok_5 : okD (cycT 5) 5 = true := by decide +kernel
theorem ok_6 : okD (cycT 6) 6 = true := by decide +kernel
theorem ok_6b : okD (dblT 3 0) 6 = true := by decide +kernel
theorem ok_7 : okD (cycT 7) 7 = true := by decide +kernel
theorem nmd_sq : ∀ n, 1 ≤ n → n ≤ 8 → 1 ≤ (nmdL n).length ∧ (nmdL n).length ≤ 5 ∧ ∀ t ∈ nmdL n, tabB n t = true := by
  intro n h1 h2
  have h : n = 1 ∨ n = 2 ∨ n = 3 ∨ n = 4 ∨ n = 5 ∨ n = 6 ∨ n = 7 ∨ n = 8 := by omega
  rcases h with h | h | h | h | h | h | h | h <;> subst h <;> decide +kernel
theorem nmd_ok : ∀ n, 1 ≤ n → n ≤ 7 → ∀ t ∈ nmdL n, okD t n = true := by
  intro n h1 h2 t ht
  have h : n = 1 ∨ n = 2 ∨ n = 3 ∨ n = 4 ∨ n = 5 ∨ n = 6 ∨ n = 7 := by omega
  rcases h with h | h | h | h | h | h | h <;> subst h
  · simp [nmdL] at ht; subst ht; exact ok_1
  · simp [nmdL] at ht; subst ht; exact ok_2
  · simp [nmdL] at ht; subst ht; exact ok_3
  · simp [nmdL] at ht; rcases ht with rfl | rfl; exact ok_4; exact ok_4b
  · simp [nmdL] at ht; subst ht; exact ok_5
  · simp [nmdL] at ht; rcases ht with rfl | rfl; exact ok_6; exact ok_6b
  · simp [nmdL] at ht; subst ht; exact ok_7
end Go.Proofs.YtiliimkfobfbnaaGreat
