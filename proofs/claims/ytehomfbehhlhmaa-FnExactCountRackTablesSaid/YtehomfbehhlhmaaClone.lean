/-
  What slices.Clone computes over numbers.
  No condition but bounds on lengths.
-/
import Derived.Test.YtehomfbehhlhmaaSlices
namespace Go.Proofs.Ytehomfbehhlhmaa
set_option maxRecDepth 100000
set_option linter.unusedVariables false
set_option linter.unusedSimpArgs false
open Go.RowKit

set_option maxHeartbeats 400000 in
theorem clone_any (a : Option Addr) (n c : Nat) (xs : List Int) (w : World) (h1 : Row w a n xs) (hm : n ≤ 1000000000000) :
    Calls Try.prog 99 #[.slice a n c] w fun e w' => ∃ a' c', e = .returned (.slice a' n c') ∧ Own w' w.heap.size a' n c' xs ∧ Below w.heap.size w w' := by
  have hnil := Lib.run_eql_slice_nil (P := Try.prog) w 22 2 a n c 0 0 und_ints
  cases a with
  | none =>
    have hn : n = 0 := by
      rcases Nat.eq_zero_or_pos n with h | h
      · exact h
      · obtain ⟨b, off, h2, _⟩ := h1.at 0 h; cases h2
    subst hn
    have hx : xs = [] := List.eq_nil_of_length_eq_zero h1.len.symm
    subst hx
    go_enter Try.func99, Try.ntmps99
    go_wp2
    go_ret
    exact ⟨none, 0, rfl, Own.nil _ _, Below.refl _ _⟩
  | some p =>
    have hr := h1.alloc (.cells #[] 2)
    go_enter Try.func99, Try.ntmps99
    go_wp2_with (at_builtin; refine appL rfl rfl (Own.fresh w rfl) rfl hr rfl (by omega) (by simp) ?_; intro ad' c' w' hO hg hb; rw [Nat.zero_add] at hO ⊢)
    go_ret
    exact ⟨ad', c', rfl, by simpa using hO, ((Below.refl _ _).alloc (Nat.le_refl _) _).trans hb⟩

end Go.Proofs.Ytehomfbehhlhmaa
