/-
  Drawn braids, with what is drawn beside them: what the drawing functions leave, whatever they draw.
  No condition but bounds.
-/
import Derived.Test.YtgnaeeifnhgobaaDrawB
namespace Go.Proofs.Ytgnaeeifnhgobaa
set_option linter.unusedVariables false
set_option linter.unusedSimpArgs false
set_option maxRecDepth 100000
open Go.RowKit

/-- what a function that draws a braid out of a code leaves -/
def DrT (w : World) (e : Ending) (w' : World) : Prop :=
  ∃ (S : Int) (a : Option Addr) (n c : Nat) (xs : List Int), e = .returned (bAgg S a n c) ∧ 0 ≤ S ∧ S ≤ 10 ∧ n ≤ 31 ∧ Sml xs ∧ Own w' w.heap.size a n c xs ∧ Below w.heap.size w w'
def DrTI (w : World) (e : Ending) (w' : World) : Prop :=
  ∃ (S : Int) (a : Option Addr) (n c : Nat) (xs : List Int) (k : Int), e = .returned (.tuple #[bAgg S a n c, .int .i64 k]) ∧ 0 ≤ S ∧ S ≤ 10 ∧ n ≤ 31 ∧ Sml xs ∧ I64 k ∧ Own w' w.heap.size a n c xs ∧ Below w.heap.size w w'

theorem below_grown {w0 w w' : World} {b : Nat} (h : Below w0.heap.size w0 w) (hg : w.grownBy w' (some b)) (hb : w0.heap.size ≤ b) : Below w0.heap.size w0 w' := h.grown hg h.size (fun k hk => by cases hk; exact hb)

theorem DrawStab_lit : ([1, -1, 1, -1, 0, 2] : List Int).length = 6 := rfl
end Go.Proofs.Ytgnaeeifnhgobaa
