/-
  What opposites computes.
  No condition but bounds.
-/
import Derived.Test.YtgnaeeifnhgobaaBase
namespace Go.Proofs.Ytgnaeeifnhgobaa
set_option maxRecDepth 100000
set_option linter.unusedVariables false
set_option linter.unusedSimpArgs false
open Go.RowKit

def negL (xs : List Int) : List Int := xs.map fun x => -x
theorem negL_succ {xs : List Int} {k : Nat} (h : k < xs.length) : negL (xs.take (k + 1)) = negL (xs.take k) ++ [-xs[k]] := by
  simp only [negL, List.take_succ_eq_append_getElem h, List.map_append, List.map_cons, List.map_nil]
theorem negL_len (xs : List Int) : (negL xs).length = xs.length := by simp [negL]
theorem neg_step (xs : List Int) (n j : Nat) (hl : n = xs.length) (h : j < n) (hx : j < xs.length) : (negL (xs.take j) ++ List.replicate (n - j) 0).set j (-xs[j]) = negL (xs.take (j + 1)) ++ List.replicate (n - (j + 1)) 0 := by
  have e : (negL (xs.take j)).length = j := by rw [negL_len, List.length_take]; omega
  rw [List.set_append_right _ _ (by omega), e, Nat.sub_self, negL_succ hx, List.append_assoc]
  congr 1
  obtain ⟨m, hm⟩ : ∃ m, n - j = m + 1 := ⟨n - j - 1, by omega⟩
  have hm' : n - (j + 1) = m := by omega
  rw [hm, hm', List.replicate_succ]
  simp

end Go.Proofs.Ytgnaeeifnhgobaa
