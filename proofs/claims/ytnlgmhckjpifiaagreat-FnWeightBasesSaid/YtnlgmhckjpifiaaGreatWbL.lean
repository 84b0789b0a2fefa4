/-
  Small functions of rows modulo primes: inverses, first places, sums of rows.
  No condition but bounds.
-/
import Derived.Test.YtnlgmhckjpifiaaGreatEchL
import Derived.Test.YtnlgmhckjpifiaaGreatBase
import Derived.Deep.RegionHeld3
import Derived.IntWalk
namespace Go.Proofs.YtnlgmhckjpifiaaGreat
set_option maxRecDepth 100000
set_option linter.unusedVariables false
set_option linter.unusedSimpArgs false
open Go.RowKit

def isPr (p : Int) : Prop := p = 2 ∨ p = 3 ∨ p = 5 ∨ p = 7
instance (p : Int) : Decidable (isPr p) := by unfold isPr; infer_instance
theorem inv_facts {p a : Int} (hp : isPr p) (h0 : 0 < a) (h1 : a < p) : ∃ I : Nat, invF p a = I ∧ 1 ≤ I ∧ I ≤ 6 ∧ (∀ k : Nat, 1 ≤ k → k ≤ I → 0 ≤ a * (k : Int) ∧ a * (k : Int) ≤ 49 ∧ (a * (k : Int) % p = 1 ↔ k = I)) := by
  obtain ⟨v1, v2, v3, v4⟩ := invF_ok hp a h0 h1
  unfold IsInv at v1
  unfold isPr at hp
  obtain ⟨I, hI⟩ : ∃ I : Nat, invF p a = I := ⟨(invF p a).toNat, by omega⟩
  rw [hI] at v1 v2 v3 v4
  refine ⟨I, hI, by omega, by omega, fun k k1 k2 => ⟨Int.mul_nonneg (by omega) (by omega), ?_, ?_, ?_⟩⟩
  · have : a * (k : Int) ≤ 7 * 7 := Int.mul_le_mul (by omega) (by omega) (by omega) (by omega)
    omega
  · intro e
    by_cases q : k = I
    · exact q
    · exact absurd e (v4 k k1 (by omega))
  · rintro rfl; exact v1

set_option maxHeartbeats 1000000 in
theorem l15Inverse_ok (a p : Int) (hp : isPr p) (h0 : 0 < a) (h1 : a < p) (w : World) :
    Calls Tryz.prog 166 #[.int .i64 a, .int .i64 p] w fun e w' => e = .returned (.int .i64 (invF p a)) ∧ w = w' := by
  obtain ⟨I, hI, i1, i6, hk⟩ := inv_facts hp h0 h1
  rw [hI]
  have HK := Lib.hid hk; clear hk
  have p2 : 2 ≤ p ∧ p ≤ 7 := by unfold isPr at hp; omega
  clear hp hI
  have p0 : p ≠ 0 := by omega
  go_enter Tryz.func166, Tryz.ntmps166
  go_wp2
  go_loop [5] (fun i => ∃ k : Nat, 1 ≤ k ∧ k ≤ I ∧ i = .int .i64 k) (fun i => I - (intOf i).toNat)
  case atStart => exact ⟨1, by omega, by omega, rfl⟩
  case round =>
    obtain ⟨k, k1, kI, rfl⟩ := hrel
    obtain ⟨m0, m1, m2⟩ := HK.out k k1 kI
    have hw : IntKind.i64.wrap (a * (k : Int)) = a * (k : Int) := IntWalk.i64_in _ (by omega)
    have ht : (a * (k : Int)).tmod p = a * (k : Int) % p := IntWalk.rem_in _ _ (by omega)
    obtain ⟨R, hR⟩ : ∃ R, a * (k : Int) % p = R := ⟨_, rfl⟩
    rw [hR] at m2 ht
    clear hR m0 m1
    by_cases e : k = I
    · obtain rfl : R = 1 := m2.2 e
      clear m2
      subst e
      go_wp2
      go_ret
      exact ⟨rfl, rfl⟩
    · have hb : (R != 1) = true := by simpa using fun h => e (m2.1 h)
      clear m2
      go_wp2
      go_round
      case rel => exact ⟨k + 1, by omega, by omega, by go_num⟩
      case measure => simp [intOf]; omega

set_option maxHeartbeats 1000000 in
theorem inverseModulo_ok (a p : Int) (hp : isPr p) (h0 : 0 < a) (h1 : a < p) (w : World) :
    Calls Tryz.prog 159 #[.int .i64 p, .int .i64 a] w fun e w' => e = .returned (.int .i64 (invF p a)) ∧ w = w' := by
  obtain ⟨I, hI, i1, i6, hk⟩ := inv_facts hp h0 h1
  rw [hI]
  have HK := Lib.hid hk; clear hk
  have p2 : 2 ≤ p ∧ p ≤ 7 := by unfold isPr at hp; omega
  clear hp hI
  have p0 : p ≠ 0 := by omega
  go_enter Tryz.func159, Tryz.ntmps159
  go_wp2
  go_loop [5] (fun i => ∃ k : Nat, 1 ≤ k ∧ k ≤ I ∧ i = .int .i64 k) (fun i => I - (intOf i).toNat)
  case atStart => exact ⟨1, by omega, by omega, rfl⟩
  case round =>
    obtain ⟨k, k1, kI, rfl⟩ := hrel
    obtain ⟨m0, m1, m2⟩ := HK.out k k1 kI
    have hw : IntKind.i64.wrap (a * (k : Int)) = a * (k : Int) := IntWalk.i64_in _ (by omega)
    have ht : (a * (k : Int)).tmod p = a * (k : Int) % p := IntWalk.rem_in _ _ (by omega)
    obtain ⟨R, hR⟩ : ∃ R, a * (k : Int) % p = R := ⟨_, rfl⟩
    rw [hR] at m2 ht
    clear hR m0 m1
    by_cases e : k = I
    · obtain rfl : R = 1 := m2.2 e
      clear m2
      subst e
      go_wp2
      go_ret
      exact ⟨rfl, rfl⟩
    · have hb : (R != 1) = true := by simpa using fun h => e (m2.1 h)
      clear m2
      go_wp2
      go_round
      case rel => exact ⟨k + 1, by omega, by omega, by go_num⟩
      case measure => simp [intOf]; omega

/-- the first place with a number other than 0, or -1 -/
def ldI (xs : List Int) : Int := if ldN xs = xs.length then -1 else ldN xs
theorem ldI_hit {xs : List Int} {k : Nat} (hk : k < xs.length) (h1 : ∀ i, i < k → gv xs i = 0) (h2 : gv xs k ≠ 0) : ldI xs = k := by
  unfold ldI; rw [ldN_eq hk h2 h1, if_neg (by omega)]
theorem ldI_miss {xs : List Int} (h1 : ∀ i, i < xs.length → gv xs i = 0) : ldI xs = -1 := by
  unfold ldI
  have : ¬ ldN xs < xs.length := fun h => ldN_lt h (h1 _ h)
  have := ldN_le xs
  rw [if_pos (by omega)]

set_option maxHeartbeats 1000000 in
theorem l15First_any (a : Option Addr) (n c : Nat) (xs : List Int) (w : World) (h1 : Row w a n xs) (hm : n ≤ 1000000000000) :
    Calls Tryz.prog 105 #[.slice a n c] w fun e w' => e = .returned (.int .i64 (ldI xs)) ∧ w = w' := by
  have hl := h1.len
  have HL := Lib.hid hl; clear hl
  go_enter Tryz.func105, Tryz.ntmps105
  go_wp2
  go_loop [3] (fun i => ∃ k : Nat, k ≤ n ∧ i = .int .i64 k ∧ Hid (∀ j, j < k → gv xs j = 0)) (fun i => n - (intOf i).toNat)
  case atStart => exact ⟨0, Nat.zero_le _, rfl, Lib.hid fun j hj => absurd hj (by omega)⟩
  case round =>
    obtain ⟨k, hk, rfl, hz⟩ := hrel
    by_cases hlt : k < n
    · obtain ⟨b, off, rfl, g1⟩ := h1.at k hlt
      clear h1
      obtain ⟨X, hX⟩ : ∃ X, xs.getD k 0 = X := ⟨_, rfl⟩
      rw [hX] at g1
      have HX := Lib.hid hX; clear hX
      by_cases e : X = 0
      · subst e
        go_wp2
        go_round
        case rel =>
          refine ⟨k + 1, by omega, by go_num, Lib.hid fun j hj => ?_⟩
          by_cases q : j < k
          · exact hz.out j q
          · obtain rfl : j = k := by omega
            exact HX.out
        case measure => simp [intOf]; omega
      · have hb : (X != 0) = true := by simpa using e
        go_wp2
        go_ret
        exact ⟨ret_int (ldI_hit (by have := HL.out; omega) hz.out (by unfold gv; rw [HX.out]; exact e)).symm, rfl⟩
    · obtain rfl : k = n := by omega
      go_wp2
      go_ret
      exact ⟨ret_int (ldI_miss (by have := HL.out; rw [← this]; exact hz.out)).symm, rfl⟩

theorem neq0_any (x : Int) (w : World) :
    Calls Tryz.prog 204 (#[.int .i64 x] ++ #[]) w fun e w' => e = .returned (.bool (x != 0)) ∧ w = w' := by
  go_enter Tryz.func204, Tryz.ntmps204
  go_wp2
  go_ret
  exact ⟨rfl, rfl⟩
theorem idxI_ld (xs : List Int) : idxI (fun x => x != 0) xs = ldI xs := by
  unfold ldI
  by_cases h : ldN xs = xs.length
  · rw [if_pos h]
    refine idxI_miss ?_
    rw [List.all_eq_true]
    intro x hx
    have := List.findIdx_eq_length.1 h x hx
    simpa using this
  · rw [if_neg h]
    have hlt : ldN xs < xs.length := by have := ldN_le xs; omega
    refine idxI_hit hlt ?_ ?_
    · rw [List.all_eq_true]
      intro x hx
      obtain ⟨i, hi, rfl⟩ := List.mem_take_iff_getElem.1 hx
      have := ldN_pre (v := xs) (i := i) (by omega)
      unfold gv at this
      rw [List.getD_eq_getElem?_getD, List.getElem?_eq_getElem (by omega)] at this
      simpa using this
    · have := ldN_lt hlt
      unfold gv at this
      rw [List.getD_eq_getElem?_getD, List.getElem?_eq_getElem hlt] at this
      simpa using this

set_option maxHeartbeats 1000000 in
theorem leading_any (a : Option Addr) (n c : Nat) (xs : List Int) (w : World) (h1 : Row w a n xs) (hm : n ≤ 1000000000000) :
    Calls Tryz.prog 156 #[.slice a n c] w fun e w' => e = .returned (.int .i64 (ldI xs)) ∧ w = w' := by
  have HC := Lib.hid (idxFunc_inv (fun w1 => w = w1) 204 #[] (fun x => x != 0) a n c xs w rfl (fun w1 h => h ▸ h1) (by omega) (by intro args w; rfl) (fun x _ w1 h => (neq0_any x w1).mono fun e w' ⟨h1, h2⟩ => ⟨h1, h.trans h2⟩))
  rw [idxI_ld] at HC
  go_enter Tryz.func156, Tryz.ntmps156
  go_wp2_with fail
  refine HC.out.mono ?_
  rintro e w' ⟨rfl, rfl⟩
  go_wp2
  go_ret
  exact ⟨rfl, rfl⟩

set_option maxHeartbeats 1000000 in
theorem isFieldPrime_ok (p : Int) (b : Bool) (h : decide (isPr p) = b) (w : World) :
    Calls Tryz.prog 96 #[.int .i64 p] w fun e w' => e = .returned (.bool b) ∧ w = w' := by
  by_cases q2 : p = 2
  · have e : b = true := by rw [← h]; simp [isPr, q2]
    subst e q2; clear h
    go_enter Tryz.func96, Tryz.ntmps96
    go_wp2
    go_ret
    exact ⟨rfl, rfl⟩
  by_cases q3 : p = 3
  · have e : b = true := by rw [← h]; simp [isPr, q3]
    subst e q3; clear h
    go_enter Tryz.func96, Tryz.ntmps96
    go_wp2
    go_ret
    exact ⟨rfl, rfl⟩
  by_cases q5 : p = 5
  · have e : b = true := by rw [← h]; simp [isPr, q5]
    subst e q5; clear h
    go_enter Tryz.func96, Tryz.ntmps96
    go_wp2
    go_ret
    exact ⟨rfl, rfl⟩
  by_cases q7 : p = 7
  · have e : b = true := by rw [← h]; simp [isPr, q7]
    subst e q7; clear h
    go_enter Tryz.func96, Tryz.ntmps96
    go_wp2
    go_ret
    exact ⟨rfl, rfl⟩
  have e : b = false := by rw [← h]; simp [isPr, q2, q3, q5, q7]
  subst e; clear h
  have b2 : (p == 2) = false := by simpa using q2
  have b3 : (p == 3) = false := by simpa using q3
  have b5 : (p == 5) = false := by simpa using q5
  have b7 : (p == 7) = false := by simpa using q7
  go_enter Tryz.func96, Tryz.ntmps96
  go_wp2
  go_ret
  exact ⟨rfl, rfl⟩
set_option maxHeartbeats 1000000 in
theorem l15Prime_ok (p : Int) (b : Bool) (h : decide (isPr p) = b) (w : World) :
    Calls Tryz.prog 101 #[.int .i64 p] w fun e w' => e = .returned (.bool b) ∧ w = w' := by
  by_cases q2 : p = 2
  · have e : b = true := by rw [← h]; simp [isPr, q2]
    subst e q2; clear h
    go_enter Tryz.func101, Tryz.ntmps101
    go_wp2
    go_ret
    exact ⟨rfl, rfl⟩
  by_cases q3 : p = 3
  · have e : b = true := by rw [← h]; simp [isPr, q3]
    subst e q3; clear h
    go_enter Tryz.func101, Tryz.ntmps101
    go_wp2
    go_ret
    exact ⟨rfl, rfl⟩
  by_cases q5 : p = 5
  · have e : b = true := by rw [← h]; simp [isPr, q5]
    subst e q5; clear h
    go_enter Tryz.func101, Tryz.ntmps101
    go_wp2
    go_ret
    exact ⟨rfl, rfl⟩
  by_cases q7 : p = 7
  · have e : b = true := by rw [← h]; simp [isPr, q7]
    subst e q7; clear h
    go_enter Tryz.func101, Tryz.ntmps101
    go_wp2
    go_ret
    exact ⟨rfl, rfl⟩
  have e : b = false := by rw [← h]; simp [isPr, q2, q3, q5, q7]
  subst e; clear h
  have b2 : (p == 2) = false := by simpa using q2
  have b3 : (p == 3) = false := by simpa using q3
  have b5 : (p == 5) = false := by simpa using q5
  have b7 : (p == 7) = false := by simpa using q7
  go_enter Tryz.func101, Tryz.ntmps101
  go_wp2
  go_ret
  exact ⟨rfl, rfl⟩
end Go.Proofs.YtnlgmhckjpifiaaGreat
