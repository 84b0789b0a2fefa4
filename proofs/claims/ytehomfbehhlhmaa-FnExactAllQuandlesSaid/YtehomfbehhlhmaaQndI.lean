/-
  AllQuandles: the closure of the program.
  No condition but bounds.
-/
import Derived.Test.YtehomfbehhlhmaaKnkI
import Derived.Test.YtehomfbehhlhmaaCyiS
namespace Go.Proofs.Ytehomfbehhlhmaa
set_option maxRecDepth 100000
set_option linter.unusedVariables false
set_option linter.unusedSimpArgs false
open Go.RowKit

/-- is the kink the identity? -/
def qdI (n : Nat) (t : List (List Int)) : Bool := incOk (knkL n t)
set_option maxHeartbeats 2000000 in
theorem allQuandles1_any (a : Option Addr) (n c : Nat) (t : List (List Int)) (w : World) (h : Tbl w a n t) (hs : Sq n t) (h1 : 1 ≤ n) (hn : n ≤ 12) :
    Calls Try.prog 118 #[rAgg a n c] w fun e w' => e = .returned (.bool (!qdI n t)) ∧ Below w.heap.size w w' := by
  have HS := Lib.hid hs; clear hs
  have hA := Loc.new w rfl #[.slice a n c] 65
  have lA := hA.one
  have hB := below_al (Below.refl w.heap.size w) (.cells #[.slice a n c] 65)
  obtain ⟨B, HB⟩ : ∃ B, Hid (qdI n t = B) := ⟨_, rfl⟩
  rw [HB.out]
  go_enter Try.func118, Try.ntmps118
  go_wp2_with fail
  refine (kinkOf_any a n c t _ (h.alloc _) HS.out h1 hn).mono ?_
  rintro e w2 ⟨a2, c2, rfl, ho2, hb2⟩
  go_wp2_with fail
  refine (isIdentity_any a2 n c2 _ w2 ho2.row (by omega)).mono ?_
  rintro e w3 ⟨rfl, hb3⟩
  rw [show incOk (knkL n t) = B from HB.out]
  go_wp2
  go_ret
  exact ⟨rfl, below_th (below_th hB hb2) hb3⟩
end Go.Proofs.Ytehomfbehhlhmaa
