/-
  BraidSum: what the program's computes.
  No condition but bounds.
-/
import Derived.Test.YtgnaeeifnhgobaaCloM
import Derived.Test.YtgnaeeifnhgobaaBase
namespace Go.Proofs.Ytgnaeeifnhgobaa
set_option linter.unusedVariables false
set_option linter.unusedSimpArgs false
set_option maxRecDepth 100000
open Go.RowKit

theorem sgS_bd (xs : List Int) : ∀ k, k ≤ xs.length → -(k : Int) ≤ sgS (xs.take k) ∧ sgS (xs.take k) ≤ k := by
  intro k
  induction k with
  | zero => intro _; simp [sgS]
  | succ k ih =>
    intro hk
    rw [sgS_take (by omega)]
    have := ih (by omega)
    have h := sgn_bd xs[k]
    omega
set_option maxHeartbeats 4000000 in
theorem impl_Sum_ok (s : Int) (a : Option Addr) (n c : Nat) (xs : List Int) (w : World) (h1 : Row w a n xs) (hm : n ≤ 9223372036854775807) (hb : isBr s xs = true) :
    Calls Try.prog 12 #[bAgg s a n c] w (RetI w (sgS xs) 0) := by
  have HB := Lib.hid hb
  have hbr := isBr_let hb
  have HL := Lib.hid h1.len
  have hn30 : n ≤ 30 := by have := h1.len; omega
  clear hb
  have hA := Loc.new w rfl #[.int .i64 s, .slice a n c] 26
  go_enter Try.func12, Try.ntmps12
  go_wp2_with fail
  refine (isBraid_any _ _ _ _ xs _ (h1.alloc _) hm).mono ?_
  rintro e w1 ⟨rfl, hb1⟩
  rw [HB.out]
  have hB1 : Below w.heap.size w w1 := below_alth (Below.refl _ _) hb1
  have hA1 := hA.below hb1 hA.lt
  have lA1 := hA1.two
  have hr1 := (h1.alloc (.cells #[.int .i64 s, .slice a n c] 26)).below hb1
  go_wp2
  go_loop [4, 6, 13] (fun m _ i => ∃ k : Nat, k ≤ n ∧ i = .int .i64 k ∧ m = .int .i64 (sgS (xs.take k))) (fun _ _ i => n - (intOf i).toNat)
  case atStart => exact ⟨0, Nat.zero_le _, rfl, rfl⟩
  case round =>
    obtain ⟨k, hk, rfl, rfl⟩ := hrel
    by_cases hlt : k < n
    · obtain ⟨b, off, rfl, g1⟩ := hr1.at k hlt
      have hx : k < xs.length := by have := HL.out; omega
      have HT := Lib.hid (sgS_take hx)
      have hbd := sgS_bd xs k (by omega)
      have hs1 := sgn_bd xs[k]
      rw [getD_at hx] at g1
      obtain ⟨hbd1, hbd2⟩ := hbd
      obtain ⟨hs11, hs12⟩ := hs1
      have hsum : IntKind.i64.wrap (sgS (xs.take k) + sgn xs[k]) = sgS (xs.take k) + sgn xs[k] := IntWalk.i64_in _ ⟨by omega, by omega⟩
      go_wp2_with fail
      refine (signOf_any xs[k] _).mono ?_
      rintro e w3 ⟨rfl, rfl⟩
      go_wp2
      go_round
      case rel => exact ⟨k + 1, by omega, by go_num, by rw [HT.out]⟩
      case measure => simp [intOf]; omega
    · obtain rfl : k = n := by omega
      go_wp2
      go_ret2
      have e : xs.take k = xs := List.take_of_length_le (by have := HL.out; omega)
      rw [e]
      exact ⟨rfl, hB1⟩
end Go.Proofs.Ytgnaeeifnhgobaa
