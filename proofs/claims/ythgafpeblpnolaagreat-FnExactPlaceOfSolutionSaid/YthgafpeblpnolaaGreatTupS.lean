/-
  The tuple with a number.
  No condition but bounds.
-/
import Derived.Test.YthgafpeblpnolaaGreatBase2
import Derived.IntWalk
namespace Go.Proofs.YthgafpeblpnolaaGreat
set_option maxRecDepth 100000
set_option linter.unusedVariables false
set_option linter.unusedSimpArgs false
open Go.RowKit

set_option maxHeartbeats 1000000 in
theorem l06Digits_any (n k N : Nat) (w : World) (hn1 : 1 ≤ n) (hn : n ≤ 1000000) (hk : k ≤ 1000000) (hN : N ≤ 1000000000000) :
    Calls Tryz.prog 135 #[.int .i64 N, .int .i64 n, .int .i64 k] w fun e w' => ∃ a c, e = .returned (.slice a k c) ∧ Own w' w.heap.size a k c (digL n k N) ∧ Below w.heap.size w w' := by
  go_enter Tryz.func135, Tryz.ntmps135
  go_wp2_with (at_make; refine make1 rfl rfl rfl rfl (by omega) ?_; intro w1 ho hs hb)
  have hn0 : (n : Int) ≠ 0 := by omega
  go_loopw [0, 8] (fun q i wr => ∃ j : Nat, j ≤ k ∧ i = .int .i64 ((k : Int) - 1 - j) ∧ q = .int .i64 ((N / n ^ j : Nat) : Int) ∧ Own wr w.heap.size (some ⟨w.heap.size, 0, none⟩) k k (digP n k N j) ∧ Below w.heap.size w wr) (fun _ i _ => (intOf i + 1).toNat)
  case atStart => exact ⟨0, Nat.zero_le _, by go_num, by simp, by rw [digP_zero]; exact ho, hb⟩
  case round =>
    clear ho hb
    obtain ⟨j, hj, rfl, rfl, ho, hb⟩ := hrel
    by_cases hlt : j < k
    · have hq : N / n ^ j ≤ N := Nat.div_le_self _ _
      have hst := digP_step n k N j hlt
      have hdv := div_pow_succ n j N
      obtain ⟨Q, hQ⟩ : ∃ Q, Q = N / n ^ j := ⟨_, rfl⟩
      rw [← hQ] at hq hst hdv ⊢
      have Qr : ((Q : Int)).tmod (n : Int) = ((Q % n : Nat) : Int) := by rw [Int.tmod_eq_emod_of_nonneg (by omega)]; simp
      have Qd : ((Q : Int)).tdiv (n : Int) = ((Q / n : Nat) : Int) := by rw [Int.tdiv_eq_ediv_of_nonneg (by omega)]; simp
      have b1 : Q % n ≤ Q := Nat.mod_le _ _
      have b2 : Q / n ≤ Q := Nat.div_le_self _ _
      have HST := Lib.hid hst; have HDV := Lib.hid hdv
      clear hst hdv hQ
      obtain ⟨i, hi⟩ : ∃ i : Nat, i = k - 1 - j := ⟨_, rfl⟩
      have hii : (k : Int) - 1 - (j : Int) = (i : Int) := by omega
      have hik : i < k := by omega
      rw [hii]
      have HI := Lib.hid hi; have HII := Lib.hid hii
      clear hi hii
      generalize hR : Q % n = R at *
      generalize hD : Q / n = D at *
      have HR := Lib.hid hR; have HD := Lib.hid hD; clear hR hD
      have Wr : IntKind.i64.wrap (R : Int) = (R : Int) := IntWalk.i64_in _ (by omega)
      have Wd : IntKind.i64.wrap (D : Int) = (D : Int) := IntWalk.i64_in _ (by omega)
      have Wi : IntKind.i64.wrap ((i : Int) - 1) = (i : Int) - 1 := IntWalk.i64_in _ (by omega)
      obtain ⟨_, hc, hf⟩ := ho.cells
      have hc1 := hc i hik
      have hf1 := hf i
      clear hc hf
      go_wp2
      go_roundw
      case rel =>
        refine ⟨j + 1, by omega, ?_, by rw [← HDV.out], ?_, hb.setCell (by simp) _⟩
        · have := HII.out
          congr 1
          omega
        · rw [← HST.out, ← HI.out]
          exact ho.set i _
      case measure => first | (simp [intOf]; done) | (simp [intOf]; omega)
    · obtain rfl : j = k := by omega
      have e1 : (j : Int) - 1 - (j : Int) = -1 := by omega
      rw [e1]
      rw [digP_full] at ho
      go_wp2
      go_ret
      exact ⟨_, _, rfl, ho, hb⟩

end Go.Proofs.YthgafpeblpnolaaGreat
