/-
  The program's tables row by row: plain lists.
  No condition.
-/
import Derived.Test.YtehomfbehhlhmaaNxtL
namespace Go.Proofs.Ytehomfbehhlhmaa
set_option maxRecDepth 100000
set_option linter.unusedVariables false
set_option linter.unusedSimpArgs false

def rowP (ps : List (List Int)) (fits : List (List Int) → Bool) (m : Nat) (o : List (List Int)) (k : Nat) : List (List (List Int)) := (ps.take k).flatMap fun p => if fits (o ++ [p]) then rowG ps fits m (o ++ [p]) else []
theorem rowP_zero (ps : List (List Int)) (fits : List (List Int) → Bool) (m : Nat) (o : List (List Int)) : rowP ps fits m o 0 = [] := rfl
theorem rowP_succ (ps : List (List Int)) (fits : List (List Int) → Bool) (m : Nat) (o : List (List Int)) {k : Nat} (h : k < ps.length) : rowP ps fits m o (k + 1) = rowP ps fits m o k ++ if fits (o ++ [ps.getD k []]) then rowG ps fits m (o ++ [ps.getD k []]) else [] := by
  unfold rowP
  rw [List.take_succ_eq_append_getElem h, List.flatMap_append]
  simp [List.getD_eq_getElem?_getD, List.getElem?_eq_getElem h]
theorem rowP_all (ps : List (List Int)) (fits : List (List Int) → Bool) (m : Nat) (o : List (List Int)) : rowP ps fits m o ps.length = rowG ps fits (m + 1) o := by
  unfold rowP; rw [List.take_length]; rfl
theorem rowG_bd (ps : List (List Int)) (fits : List (List Int) → Bool) : ∀ (m : Nat) (o : List (List Int)), (rowG ps fits m o).length ≤ ps.length ^ m := by
  intro m
  induction m with
  | zero => intro o; simp [rowG]
  | succ m ih =>
    intro o
    have : ∀ k, k ≤ ps.length → (rowP ps fits m o k).length ≤ k * ps.length ^ m := by
      intro k
      induction k with
      | zero => intro _; simp [rowP]
      | succ k ihk =>
        intro hk
        rw [rowP_succ ps fits m o (by omega), List.length_append, Nat.add_mul, Nat.one_mul]
        have := ihk (by omega)
        split
        · have := ih (o ++ [ps.getD k []]); omega
        · simp; omega
    have h := this ps.length (Nat.le_refl _)
    rw [rowP_all] at h
    rw [Nat.pow_succ, Nat.mul_comm]
    exact h
theorem rowP_le (ps : List (List Int)) (fits : List (List Int) → Bool) (m : Nat) (o : List (List Int)) : ∀ k, k ≤ ps.length → (rowP ps fits m o k).length ≤ k * ps.length ^ m := by
  intro k
  induction k with
  | zero => intro _; simp [rowP]
  | succ k ihk =>
    intro hk
    rw [rowP_succ ps fits m o (by omega), List.length_append, Nat.add_mul, Nat.one_mul]
    have := ihk (by omega)
    split
    · have := rowG_bd ps fits m (o ++ [ps.getD k []]); omega
    · simp; omega
end Go.Proofs.Ytehomfbehhlhmaa
