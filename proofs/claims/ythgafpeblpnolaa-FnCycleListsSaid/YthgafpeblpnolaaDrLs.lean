/-
  Draws of numbers of elements for the lists: the number is one of those that the draw names.
  No condition but bounds.
-/
import Derived.Test.YthgafpeblpnolaaDraw
namespace Go.Proofs.Ythgafpeblpnolaa
set_option maxRecDepth 100000
set_option linter.unusedVariables false
set_option linter.unusedSimpArgs false
open Go.RowKit

set_option maxHeartbeats 2000000 in
theorem DrawAllCycleSets_ok (a : Option Addr) (n c : Nat) (xs : List Int) (w : World) (h : Bts w a n xs) (hn : n ≤ 9223372036854775807) :
    Calls Try.prog 11 #[.slice a n c] w fun e w' => ∃ q, e = .returned (.int .i64 q) ∧ q ∈ ([1, 2, 3, 4, 0, 5] : List Int) ∧ Below w.heap.size w w' := by
  go_enter Try.func11, Try.ntmps11
  go_wp2_with fail
  refine (l01From_ok a n c xs _ h hn).mono ?_
  rintro e w1 ⟨b, rfl, hb, hs, hb1⟩
  have hlt := hs.lt
  go_wp2_with fail
  refine (l01Pick_ok b _ _ _ [1, 2, 3, 4, 0, 5] _ (hs.below (below_al (Below.refl _ _) _)) (row_lit w1 _ _ _ rfl) (by decide) (by decide) (fun g o e => by cases e; omega)).mono ?_
  rintro e w3 ⟨q, rfl, hq, hs3, hg3⟩
  go_wp2
  go_ret
  exact ⟨_, rfl, hq, (below_al hb1 _).grown hg3 (below_al hb1 _).size (fun k hk => by cases hk; exact hb)⟩
end Go.Proofs.Ythgafpeblpnolaa
