/-
  Matrices modulo m: what the program's and the reference's questions answer.
  No condition but bounds on lengths.
-/
import Derived.Test.YtfmcaflefiapoaaBase
namespace Go.Proofs.Ytfmcaflefiapoaa
set_option maxRecDepth 100000
set_option linter.unusedVariables false
set_option linter.unusedSimpArgs false
open Go.RowKit

/-- a matrix for n elements and m -/
def isMx (n m : Int) (f : List (List Int)) : Bool := rngB 1 12 m && (decide ((f.length : Int) = n) && f.all (rowOk n m))

set_option maxHeartbeats 400000 in
theorem isShift_any (N m : Int) (a : Option Addr) (n c : Nat) (xs : List Int) (w : World) (h1 : Row w a n xs) (hm : n ≤ 9223372036854775807) :
    Calls Try.prog 101 #[.int .i64 N, .int .i64 m, .slice a n c] w fun e w' => e = .returned (.bool (rngB 1 12 m && rowOk N m xs)) ∧ w = w' := by
  have hl := h1.len
  cases hp : rngB 1 12 m with
  | false =>
    have HC := Lib.hid (fun w => within_b m 1 12 false hp w); clear hp hl
    go_enter Try.func101, Try.ntmps101
    go_wp2_with fail
    refine (HC.out _).mono ?_
    rintro e w' ⟨rfl, rfl⟩
    go_wp2
    go_ret
    exact ⟨ret_bool (by simp), rfl⟩
  | true =>
    have HC := Lib.hid (fun w => within_b m 1 12 true hp w)
    have hmm : 1 ≤ m ∧ m ≤ 12 := by simpa [rngB] using hp
    clear hp
    by_cases hn : (n : Int) = N
    · have b1 : ((n : Int) == N) = true := by simpa using hn
      have hq : rowOk N m xs = xs.all (rngB 0 (m - 1)) := by simp [rowOk, ← hl, hn]
      have HQ := Lib.hid hq; have HA := Lib.hid (fun w hr => allWithin_any a n c xs 0 (m - 1) w hr hm); clear hq hl hn
      go_enter Try.func101, Try.ntmps101
      go_wp2_with fail
      refine (HC.out _).mono ?_
      rintro e w' ⟨rfl, rfl⟩
      go_wp2_with fail
      refine (HA.out _ h1).mono ?_
      rintro e w' ⟨rfl, rfl⟩
      go_wp2
      go_ret
      exact ⟨ret_bool (by rw [HQ.out]; simp), rfl⟩
    · have b1 : ((n : Int) == N) = false := by simpa using hn
      have hq : rowOk N m xs = false := by simp [rowOk, ← hl, hn]
      have HQ := Lib.hid hq; clear hq hl hn
      go_enter Try.func101, Try.ntmps101
      go_wp2_with fail
      refine (HC.out _).mono ?_
      rintro e w' ⟨rfl, rfl⟩
      go_wp2
      go_ret
      exact ⟨ret_bool (by rw [HQ.out]; simp), rfl⟩

set_option maxHeartbeats 400000 in
theorem isMatrix1_any (N m : Int) (b1 b2 : Nat) (t1 t2 : TypeId) (a : Option Addr) (n c : Nat) (xs : List Int) (w : World) (hL1 : Loc w b1 #[.int .i64 N] t1) (hL2 : Loc w b2 #[.int .i64 m] t2) (h1 : Row w a n xs) (hm : n ≤ 9223372036854775807) (hmm : rngB 1 12 m = true) :
    Calls Try.prog 100 #[.slice a n c, .pointer (some ⟨b1, 0, none⟩), .pointer (some ⟨b2, 0, none⟩)] w fun e w' => e = .returned (.bool (!rowOk N m xs)) ∧ w = w' := by
  have l1 := hL1.one
  have l2 := hL2.one
  have hc := isShift_any N m a n c xs w h1 hm
  rw [hmm, Bool.true_and] at hc
  have HC := Lib.hid hc; clear hc hmm
  go_enter Try.func100, Try.ntmps100
  go_wp2_with fail
  refine HC.out.mono ?_
  rintro e w' ⟨rfl, rfl⟩
  go_wp2
  go_ret
  exact ⟨rfl, rfl⟩
theorem ent_isMatrix1 : Ent 100 := fun _ _ => rfl

set_option maxHeartbeats 1000000 in
theorem isMatrix_any (N m : Int) (a : Option Addr) (n c : Nat) (xs : List (List Int)) (w : World) (h1 : Tbl w a n xs) (hm : n ≤ 9223372036854775807) :
    Calls Try.prog 58 #[.int .i64 N, .int .i64 m, .slice a n c] w fun e w' => e = .returned (.bool (isMx N m xs)) ∧ Below w.heap.size w w' := by
  have hl := h1.len
  have hB := below_al (below_al (Below.refl w.heap.size w) (.cells #[.int .i64 N] 3)) (.cells #[.int .i64 m] 2)
  cases hp : rngB 1 12 m with
  | false =>
    have hq : isMx N m xs = false := by simp [isMx, hp]
    have HQ := Lib.hid hq
    have HC := Lib.hid (fun w => within_b m 1 12 false hp w); clear hp hl hq
    go_enter Try.func58, Try.ntmps58
    go_wp2_with fail
    refine (HC.out _).mono ?_
    rintro e w' ⟨rfl, rfl⟩
    go_wp2
    go_ret
    exact ⟨ret_bool HQ.out.symm, hB⟩
  | true =>
    have HC := Lib.hid (fun w => within_b m 1 12 true hp w)
    have HP := Lib.hid hp
    by_cases hn : (n : Int) = N
    · have b1 : ((n : Int) == N) = true := by simpa using hn
      have hq : isMx N m xs = xs.all (rowOk N m) := by simp [isMx, hp, ← hl, hn]
      have HQ := Lib.hid hq; clear hq hl hn hp
      have hcl : ∀ x ∈ xs, ∀ w1, ((w.alloc (.cells #[.int .i64 N] 3)).alloc (.cells #[.int .i64 m] 2)) = w1 → ∀ a' n' c', Row w1 a' n' x → n' ≤ 9223372036854775807 → Calls Try.prog 100 (#[.slice a' n' c'] ++ #[.pointer (some ⟨w.heap.size, 0, none⟩), .pointer (some ⟨w.heap.size + 1, 0, none⟩)]) w1 fun e w' => e = .returned (.bool (!rowOk N m x)) ∧ ((w.alloc (.cells #[.int .i64 N] 3)).alloc (.cells #[.int .i64 m] 2)) = w' := fun x hx w1 hw1 a' n' c' hr hn' => by
        subst hw1
        exact isMatrix1_any N m _ _ _ _ a' n' c' x _ ((Loc.new _ rfl _ _).alloc _) (Loc.new _ (by simp) _ _) hr hn' HP.out
      have HCL := Lib.hid hcl; clear hcl
      go_enter Try.func58, Try.ntmps58
      go_wp2_with fail
      refine (HC.out _).mono ?_
      rintro e w' ⟨rfl, rfl⟩
      go_wp2_with fail
      refine (containsFunc_rows (fun w1 => ((w.alloc (.cells #[.int .i64 N] 3)).alloc (.cells #[.int .i64 m] 2)) = w1) 100 _ (fun x => !rowOk N m x) _ _ _ xs _ rfl (fun w1 h => h ▸ (h1.alloc _).alloc _) hm ent_isMatrix1 HCL.out).mono ?_
      rintro e w' ⟨rfl, rfl⟩
      go_wp2
      go_ret
      refine ⟨ret_bool ?_, hB⟩
      rw [HQ.out]
      simp [List.any_eq_not_all_not]
    · have b1 : ((n : Int) == N) = false := by simpa using hn
      have hq : isMx N m xs = false := by simp [isMx, ← hl, hn]
      have HQ := Lib.hid hq; clear hq hl hn hp
      go_enter Try.func58, Try.ntmps58
      go_wp2_with fail
      refine (HC.out _).mono ?_
      rintro e w' ⟨rfl, rfl⟩
      go_wp2
      go_ret
      exact ⟨ret_bool HQ.out.symm, hB⟩

end Go.Proofs.Ytfmcaflefiapoaa
