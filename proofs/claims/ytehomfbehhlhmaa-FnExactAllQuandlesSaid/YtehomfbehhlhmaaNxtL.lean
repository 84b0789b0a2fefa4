/-
  One permutation after the other: all of them, in order; and the program's tables row by row, in plain lists.
  No condition.
-/
import Derived.Test.YtehomfbehhlhmaaRevM
import Derived.Test.YtehomfbehhlhmaaRckS
import Derived.Test.YtehomfbehhlhmaaRckI
namespace Go.Proofs.Ytehomfbehhlhmaa
set_option maxRecDepth 100000
set_option linter.unusedVariables false
set_option linter.unusedSimpArgs false

def nxC (n : Nat) : Bool := decide ((prmL n).getD 0 [] = unitL n) && (List.range (prmL n).length).all fun k => decide (nxP ((prmL n).getD k []) = if k + 1 < (prmL n).length then some ((prmL n).getD (k + 1) []) else none)
theorem nx_fin : ∀ n : Fin 5, 1 ≤ n.1 → nxC n.1 = true := by decide +kernel
theorem nx_zero {n : Nat} (h1 : 1 ≤ n) (h4 : n ≤ 4) : (prmL n).getD 0 [] = unitL n := by
  have := nx_fin ⟨n, by omega⟩ h1
  simp only [nxC, Bool.and_eq_true, decide_eq_true_eq] at this
  exact this.1
theorem nx_at {n k : Nat} (h1 : 1 ≤ n) (h4 : n ≤ 4) (hk : k < (prmL n).length) : nxP ((prmL n).getD k []) = if k + 1 < (prmL n).length then some ((prmL n).getD (k + 1) []) else none := by
  have := nx_fin ⟨n, by omega⟩ h1
  simp only [nxC, Bool.and_eq_true, decide_eq_true_eq, List.all_eq_true, List.mem_range] at this
  exact this.2 k hk

/-- all tables whose rows go on with some rows, m more, as a check of the first rows accepts -/
def rowG (ps : List (List Int)) (fits : List (List Int) → Bool) : Nat → List (List Int) → List (List (List Int))
  | 0, o => [o]
  | m + 1, o => ps.flatMap fun p => if fits (o ++ [p]) then rowG ps fits m (o ++ [p]) else []
def rowL (n : Nat) (fits : List (List Int) → Bool) : List (List (List Int)) := rowG (prmL n) fits n []
end Go.Proofs.Ytehomfbehhlhmaa
