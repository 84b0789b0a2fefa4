/-
  The reference's NormalBraid at braids, and elsewhere.
  No condition but bounds.
-/
import Derived.Test.YtgnaeeifnhgobaaNfS
import Derived.Test.YtgnaeeifnhgobaaNbI
import Derived.Test.YtgnaeeifnhgobaaBase
namespace Go.Proofs.Ytgnaeeifnhgobaa
set_option maxRecDepth 100000
set_option linter.unusedVariables false
set_option linter.unusedSimpArgs false
open Go.RowKit

set_option maxHeartbeats 2000000 in
theorem specNormal_ok (n : Nat) (a : Option Addr) (N c : Nat) (xs : List Int) (r : Int × List (List Int)) (w : World) (h1 : Row w a N xs) (hb : isBr n xs = true) (hr : NFo n (begS n (0, []) xs) r) :
    Calls Try.prog 30 #[bAgg n a N c] w (NbR n xs w r) := by
  have hA := Loc.new w rfl #[.int .i64 n, .slice a N c] 26
  have lA := hA.two
  have HB := Lib.hid hb
  have HR := Lib.hid hr
  have hN : N ≤ 30 := by have := (br_ltr hb).2.2.1; have := h1.len; omega
  have hn6 : n ≤ 6 := (br_ltr hb).2.1
  have hi64 : I64 (n : Int) := by unfold I64; omega
  clear hb hr
  go_enter Try.func30, Try.ntmps30
  go_wp2_with fail
  refine (l16Is_any n a N c xs _ (h1.alloc _) (by omega) hi64).mono ?_
  rintro e w1 hx1
  have hb1 : e = .returned (.bool (isBr n xs)) ∧ Below (w.alloc (.cells #[.int .i64 n, .slice a N c] 26)).heap.size (w.alloc (.cells #[.int .i64 n, .slice a N c] 26)) w1 := hx1
  obtain ⟨rfl, hb1⟩ := hb1
  rw [HB.out]
  have hA1 := hA.below hb1 (by simp)
  have lA1 := hA1.two
  have hB1 : Below w.heap.size w w1 := below_alth (Below.refl _ _) hb1
  go_wp2_with fail
  refine (l16Normal_any n a N c xs w1 (h1.below hB1) HB.out).mono ?_
  rintro e w2 ⟨x, a2, m, c2, F, rfl, hn, ht, hb2, b1, b2, b3, b4⟩
  obtain ⟨h2, _, _, _⟩ := br_ltr HB.out
  have he := nfo_one h2 (br_fx HB.out) hn HR.out
  have HE := Lib.hid he
  have HFL : Hid (∀ y ∈ F, y.length ≤ 1000000) := Lib.hid fun y hy => by rw [b4 y hy]; omega
  clear he hn h2
  go_wp2_with fail
  refine (l01Own2_any a2 m c2 F w2 ht (by omega) HFL.out).mono ?_
  rintro e w3 ⟨a3, c3, vs3, rfl, ho3, hb3⟩
  go_wp2
  go_ret3
  exact ⟨a3, m, c3, by rw [← HE.out]; rfl, by rw [← HE.out]; exact ho3.tbl, below_th (below_th hB1 hb2) hb3, by rw [← HE.out]; exact b1, by rw [← HE.out]; exact b2, b3, by rw [← HE.out]; exact b4⟩
set_option maxHeartbeats 2000000 in
theorem specNormal_no (s : Int) (a : Option Addr) (N c : Nat) (xs : List Int) (w : World) (h1 : Row w a N xs) (hm : N ≤ 9223372036854775807) (hs : I64 s) (hb : isBr s xs = false) :
    Calls Try.prog 30 #[bAgg s a N c] w fun e w' => e = .returned (.tuple #[.int .i64 0, .slice none 0 0, .int .i64 1]) ∧ Below w.heap.size w w' := by
  have hA := Loc.new w rfl #[.int .i64 s, .slice a N c] 26
  have lA := hA.two
  have HB := Lib.hid hb
  clear hb
  go_enter Try.func30, Try.ntmps30
  go_wp2_with fail
  refine (l16Is_any s a N c xs _ (h1.alloc _) hm hs).mono ?_
  rintro e w1 ⟨rfl, hb1⟩
  rw [HB.out]
  go_wp2
  go_ret3
  exact ⟨rfl, below_alth (Below.refl _ _) hb1⟩
end Go.Proofs.Ytgnaeeifnhgobaa
