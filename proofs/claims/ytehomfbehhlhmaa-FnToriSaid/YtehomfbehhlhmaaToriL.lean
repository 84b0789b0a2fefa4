/-
  The components of torus braids are as many as the greatest common divisor, in plain lists.
  No condition.
-/
import Derived.Test.YtehomfbehhlhmaaTorus
import Derived.Test.YtehomfbehhlhmaaLnkL
namespace Go.Proofs.Ytehomfbehhlhmaa
set_option linter.unusedVariables false
set_option linter.unusedSimpArgs false
set_option maxRecDepth 100000

def toriB (P Q : Nat) : Bool := isBr P (torW P Q) && decide (grtL (compL P (torW P Q)) = (Nat.gcd P Q : Int))
set_option maxHeartbeats 4000000 in
theorem tori_fin : ∀ P : Fin 7, ∀ Q : Fin 31, 2 ≤ P.1 → (P.1 - 1) * Q.1 ≤ 30 → toriB P.1 Q.1 = true := by decide +kernel
theorem torF_cases (p q : Int) : (∃ P Q : Nat, p = P ∧ q = Q ∧ 2 ≤ P ∧ P ≤ 6 ∧ Q ≤ 30 ∧ torF p q = ((P : Int), torW P Q, 0) ∧ isBr P (torW P Q) = true ∧ grtL (compL P (torW P Q)) = (Nat.gcd P Q : Int)) ∨
    (∃ k : Int, (k = 2 ∨ k = 3) ∧ torF p q = (0, [], k)) := by
  unfold torF
  by_cases h : (2 ≤ p ∧ p ≤ 6) ∧ (0 ≤ q ∧ q ≤ 30)
  · by_cases h2 : (p - 1) * q ≤ 30
    · rw [if_pos h, if_pos h2]
      obtain ⟨⟨h3, h4⟩, h5, h6⟩ := h
      obtain ⟨P, rfl⟩ : ∃ P : Nat, p = P := ⟨p.toNat, by omega⟩
      obtain ⟨Q, rfl⟩ : ∃ Q : Nat, q = Q := ⟨q.toNat, by omega⟩
      have h7 : (P - 1) * Q ≤ 30 := by
        have e : ((P : Int) - 1) * Q = (((P - 1) * Q : Nat) : Int) := by rw [Int.natCast_mul, Int.natCast_sub (by omega)]; rfl
        omega
      have := tori_fin ⟨P, by omega⟩ ⟨Q, by omega⟩ (by show 2 ≤ P; omega) h7
      simp only [toriB, Bool.and_eq_true, decide_eq_true_eq] at this
      exact .inl ⟨P, Q, rfl, rfl, by omega, by omega, by omega, by simp, this.1, this.2⟩
    · rw [if_pos h, if_neg h2]; exact .inr ⟨3, .inr rfl, rfl⟩
  · rw [if_neg h]; exact .inr ⟨2, .inl rfl, rfl⟩
end Go.Proofs.Ytehomfbehhlhmaa
