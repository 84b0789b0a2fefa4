/-
  The program's BraidPermutation at braids; the half twist's permutation.
  No condition but bounds.
-/
import Derived.Test.YtgnaeeifnhgobaaBPerm
import Derived.Test.YtgnaeeifnhgobaaHtL
namespace Go.Proofs.Ytgnaeeifnhgobaa
set_option maxRecDepth 100000
set_option linter.unusedVariables false
set_option linter.unusedSimpArgs false
open Go.RowKit

set_option maxHeartbeats 1000000 in
theorem impl_Bpm_ok (s : Nat) (a : Option Addr) (n c : Nat) (xs : List Int) (w : World) (h1 : Row w a n xs) (hb : isBr s xs = true) :
    Calls Try.prog 10 #[bAgg s a n c] w fun e w' => ∃ a' c', e = .returned (.tuple #[.slice a' s c', .int .i64 0]) ∧ Own w' w.heap.size a' s c' (brP s xs) ∧ Below w.heap.size w w' := by
  have HB := Lib.hid hb
  have hm : n ≤ 9223372036854775807 := by have := (isBr_let hb).2.1; have := h1.len; omega
  clear hb
  have hA := Loc.new w rfl #[.int .i64 s, .slice a n c] 26
  go_enter Try.func10, Try.ntmps10
  go_wp2_with fail
  refine (isBraid_any _ _ _ _ xs _ (h1.alloc _) hm).mono ?_
  rintro e w1 ⟨rfl, hb1⟩
  rw [HB.out]
  have hB1 : Below w.heap.size w w1 := below_alth (Below.refl _ _) hb1
  have hA1 := hA.below hb1 hA.lt
  have lA1 := hA1.two
  have hr1 := (h1.alloc (.cells #[.int .i64 s, .slice a n c] 26)).below hb1
  have hz1 := hb1.size
  rw [size_alloc] at hz1
  go_wp2_with fail
  refine (braidPermutation_any s a n c xs _ hr1 HB.out).mono ?_
  rintro e w2 ⟨a', c', rfl, ho, hb2⟩
  go_wp2
  go_ret2
  exact ⟨a', c', rfl, ho.mono (by omega), below_th hB1 hb2⟩
theorem brP_ht : ∀ n : Fin 7, brP n.1 (htW n.1) = (unitL n.1).reverse := by decide +kernel
theorem htW_br : ∀ n : Fin 7, 2 ≤ n.1 → isBr n.1 (htW n.1) = true := by decide +kernel
theorem ht_get (n i : Nat) (hi : i < n) : (unitL n).reverse.getD i 0 = ((n - 1 - i : Nat) : Int) := by
  rw [rev_toL, toL_get hi]
  show ((twf n i : Nat) : Int) = _
  rw [twf_in hi]
end Go.Proofs.Ytgnaeeifnhgobaa
