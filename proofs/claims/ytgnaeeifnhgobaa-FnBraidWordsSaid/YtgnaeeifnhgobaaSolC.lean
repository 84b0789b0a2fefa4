/-
  Pairs that a pair map leads to one pair: what the program's question answers.
  No condition but bounds on lengths.
-/
import Derived.Test.YtgnaeeifnhgobaaSolE
import Derived.IntWalk
namespace Go.Proofs.Ytgnaeeifnhgobaa
set_option maxRecDepth 100000
set_option linter.unusedVariables false
set_option linter.unusedSimpArgs false
open Go.RowKit

theorem quo_nat {p n : Nat} (hn : 1 ≤ n) (hp : p ≤ 1000000) : ((p : Int)).tdiv (n : Int) = ((p / n : Nat) : Int) := by
  rw [Int.tdiv_eq_ediv_of_nonneg (by omega)]; simp
theorem rem_nat {p n : Nat} (hn : 1 ≤ n) (hp : p ≤ 1000000) : ((p : Int)).tmod (n : Int) = ((p % n : Nat) : Int) := by
  rw [Int.tmod_eq_emod_of_nonneg (by omega)]; simp
theorem div_lt_sq {p n : Nat} (h : p < n * n) : p / n < n := Nat.div_lt_of_lt_mul h

/-- what one look at two pairs reads -/
theorem coll_reads (n : Nat) (f g : List (List Int)) (hf : Sq n f) (hg : Sq n g) {p q : Nat} (hn : 1 ≤ n) (hp : p < n * n) (hq : q < n * n) :
    ∃ x y u v a b c d : Nat, (x < n ∧ y < n ∧ u < n ∧ v < n) ∧ (p / n = x ∧ p % n = y ∧ q / n = u ∧ q % n = v) ∧ (tv f x y = a ∧ tv f u v = b ∧ tv g x y = c ∧ tv g u v = d) ∧
      collAt n f g p q = ((!decide (p = q)) && (decide (a = b) && decide (c = d))) :=
  ⟨_, _, _, _, _, _, _, _, ⟨div_lt_sq hp, Nat.mod_lt _ hn, div_lt_sq hq, Nat.mod_lt _ hn⟩, ⟨rfl, rfl, rfl, rfl⟩, ⟨rfl, rfl, rfl, rfl⟩, rfl⟩

end Go.Proofs.Ytgnaeeifnhgobaa
