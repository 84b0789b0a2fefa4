/-
  The equation of a pair map: what the program's question answers.
  No condition but bounds on lengths.
-/
import Derived.Test.YtgnaeeifnhgobaaBase
namespace Go.Proofs.Ytgnaeeifnhgobaa
set_option maxRecDepth 100000
set_option linter.unusedVariables false
set_option linter.unusedSimpArgs false
open Go.RowKit

/-- no fault and nil, or a fault and no nil -/
def FltR (ok : Bool) (W w : World) (e : Ending) (w' : World) : Prop := ((ok = true ∧ e = .returned (.slice none 0 0)) ∨ (ok = false ∧ ∃ b n c, e = .returned (.slice (some ⟨b, 0, none⟩) n c))) ∧ Below W.heap.size W w'

/-- what one look at the equation reads -/
theorem eq_reads (n : Nat) (f g : List (List Int)) (hf : Sq n f) (hg : Sq n g) {x y z : Nat} (hx : x < n) (hy : y < n) (hz : z < n) :
    ∃ a1 b1 b2 c2 a3 b3 e1 f1 d2 e2 e3 f3 : Nat, (a1 < n ∧ b1 < n ∧ b2 < n ∧ e1 < n ∧ f1 < n ∧ e2 < n) ∧
      (tv f x y = a1 ∧ tv g x y = b1 ∧ tv f b1 z = b2 ∧ tv g b1 z = c2 ∧ tv f a1 b2 = a3 ∧ tv g a1 b2 = b3) ∧
      (tv f y z = e1 ∧ tv g y z = f1 ∧ tv f x e1 = d2 ∧ tv g x e1 = e2 ∧ tv f e2 f1 = e3 ∧ tv g e2 f1 = f3) ∧
      eqAt f g x y z = ((decide (a3 = d2) && decide (b3 = e3)) && decide (c2 = f3)) :=
  ⟨_, _, _, _, _, _, _, _, _, _, _, _, ⟨hf.lt hx hy, hg.lt hx hy, hf.lt (hg.lt hx hy) hz, hf.lt hy hz, hg.lt hy hz, hg.lt hx (hf.lt hy hz)⟩, ⟨rfl, rfl, rfl, rfl, rfl, rfl⟩, ⟨rfl, rfl, rfl, rfl, rfl, rfl⟩, rfl⟩

end Go.Proofs.Ytgnaeeifnhgobaa
