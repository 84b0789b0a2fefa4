/-
  The reference's Alexander tables: squares; its test for numbers without a common divisor.
  No condition but bounds.
-/
import Derived.Test.YtdkpalllfekiiaaGreatPrPd
namespace Go.Proofs.YtdkpalllfekiiaaGreat
set_option linter.unusedVariables false
set_option linter.unusedSimpArgs false
set_option maxRecDepth 100000
open Go.RowKit

theorem wrap_a6 {P x : Nat} (h : P ≤ 10000) (h2 : x ≤ 10000) : wrap64 ((P : Int) + (x : Int)) = (P : Int) + (x : Int) := IntWalk.wrap64_in _ (by omega)
/-- an ending that hands back some truth -/
def IsBo (e : Ending) : Prop := ∃ q, e = .returned (.bool q)
/-- what a function that builds a square leaves -/
def SqB (w : World) (n : Nat) (e : Ending) (w' : World) : Prop :=
  ∃ (a : Option Addr) (c : Nat) (vs : List SV) (t : List (List Int)), e = .returned (.slice a n c) ∧ OwnT w' w.heap.size a n c vs t ∧ Sq n t ∧ Below w.heap.size w w'
set_option maxHeartbeats 4000000 in
theorem l03Alexander_any (n a b : Nat) (w : World) (n1 : 1 ≤ n) (hn : n ≤ 100) (ha : a ≤ 100) (hb : b ≤ 100) :
    Calls Tryz.prog 114 #[.int .i64 n, .int .i64 a, .int .i64 b] w (SqB w n) := by
  obtain ⟨V, hV⟩ : ∃ V : Nat → Nat → Int, V = fun x y => (((b * x + a * y) % n : Nat) : Int) := ⟨_, rfl⟩
  have HVE : Hid (∀ x y, V x y = (((b * x + a * y) % n : Nat) : Int)) := Lib.hid fun x y => by rw [hV]
  have HSV : Hid (Sq n (tabF n V)) := Lib.hid (tabF_sqI fun x y hx hy => by
    rw [HVE.out]; have := Nat.mod_lt (b * x + a * y) (show n > 0 by omega); omega)
  clear hV
  have hO := OwnT.fresh w rfl
  have hB := below_al (Below.refl w.heap.size w) (.cells #[] 24)
  go_enter Tryz.func114, Tryz.ntmps114
  go_wp2
  go_loopw [7, 8, 9, 10] (fun z i _ _ wr => ∃ (k : Nat) (az : Option Addr) (cz : Nat) (vz : List SV), k ≤ n ∧ i = .int .i64 k ∧ z = .slice az k cz ∧ OwnT wr w.heap.size az k cz vz ((tabF n V).take k) ∧ Below w.heap.size w wr) (fun _ i _ _ _ => n - (intOf i).toNat)
  case atStart => exact ⟨0, _, 0, _, Nat.zero_le _, rfl, rfl, by simpa using hO, hB⟩
  case round =>
    clear hO hB
    obtain ⟨k, az, cz, vz, hk, rfl, rfl, ho, hb'⟩ := hrel
    by_cases hlt : k < n
    · have HRV := Lib.hid (tabF_succ V hlt)
      have hE := Own.fresh wr rfl
      have hqe := below_al (Below.refl wr.heap.size wr) (.cells #[] 2)
      go_wp2
      go_loopw [9, 10] (fun z i wq => ∃ (j : Nat) (ar : Option Addr) (cr : Nat), j ≤ n ∧ i = .int .i64 j ∧ z = .slice ar j cr ∧ Own wq wr.heap.size ar j cr ((List.range j).map fun y => V k y) ∧ Below wr.heap.size wr wq) (fun _ i _ => n - (intOf i).toNat)
      case atStart => exact ⟨0, _, 0, Nat.zero_le _, rfl, rfl, by simpa using hE, hqe⟩
      case round =>
        clear hE hqe
        obtain ⟨j, ar, cr, hj, rfl, rfl, hor, hqr⟩ := hrel
        have hwq := hqr.size
        obtain ⟨W, rfl⟩ : ∃ W : World, W = wr := ⟨_, rfl⟩
        by_cases hjt : j < n
        · have HV1 : Hid (((List.range (j + 1)).map fun y => V k y) = ((List.range j).map fun y => V k y) ++ [V k j]) := Lib.hid (by simp [List.range_succ])
          have hm1 : b * k ≤ 100 * 100 := Nat.mul_le_mul hb (by omega)
          have hm2 : a * j ≤ 100 * 100 := Nat.mul_le_mul ha (by omega)
          have hve := HVE.out k j
          obtain ⟨P, hP⟩ : ∃ P, b * k = P := ⟨_, rfl⟩
          obtain ⟨Q, hQ⟩ : ∃ Q, a * j = Q := ⟨_, rfl⟩
          rw [hP, hQ] at hve
          have f1 : (b : Int) * (k : Int) = (P : Int) := by rw [← hP]; push_cast; rfl
          have f2 : (a : Int) * (j : Int) = (Q : Int) := by rw [← hQ]; push_cast; rfl
          rw [hP] at hm1
          rw [hQ] at hm2
          have hPQ : P ≤ 10000 ∧ Q ≤ 10000 := by omega
          have e1 : Int.tmod ((P : Int) + (Q : Int)) (n : Int) = V k j := by rw [hve]; rfl
          have hvb : 0 ≤ V k j ∧ V k j < n := by rw [hve]; have := Nat.mod_lt (P + Q) (show n > 0 by omega); omega
          have hz1 : ¬ (n : Int) = 0 := by omega
          have hz2 : ((n : Int) == 0) = false := by simpa using hz1
          have c1 : wrap64 ((b : Int) * (k : Int)) = (P : Int) := by rw [f1]; exact wrap_n6 (by omega)
          have c2 : wrap64 ((a : Int) * (j : Int)) = (Q : Int) := by rw [f2]; exact wrap_n6 (by omega)
          have c5 : wrap64 ((P : Int) + (Q : Int)) = (P : Int) + (Q : Int) := wrap_a6 hPQ.1 hPQ.2
          clear hP hQ hm1 hm2 f1 f2 hve hPQ
          generalize V k j = v at *
          go_wp2_with (at_builtin; refine app1 rfl rfl hor rfl rfl (by omega) hwq ?_; intro g' cc w8 hO8 hg8 hs8 hb8)
          go_roundw
          case rel => exact ⟨j + 1, _, _, by omega, by go_num, rfl, by rw [HV1.out]; exact hO8, hqr.trans hb8⟩
          case measure => simp [intOf]; omega
        · obtain rfl : j = n := by omega
          have hbb := hb'.size
          have hz1 := ho.below hqr
          have hq1 := hb'.trans (hqr.mono hbb)
          go_wp2_with (at_builtin; refine appT1 rfl rfl hz1 rfl (hor.mono hbb) (fun g h1 h2 => by have h3 := ho.high _ h1; have h4 := hor.lo _ h2; omega) (fun i hi g h1 h2 => by have h3 := hor.lo _ h1; have h4 := (ho.row i hi).hi _ h2; omega) rfl (by omega) (by omega) ?_; intro g' cc w2 hO hb2)
          go_roundw
          case rel => exact ⟨k + 1, _, _, _, by omega, by go_num, rfl, by rw [HRV.out]; exact hO, hq1.trans hb2⟩
          case measure => simp [intOf]; omega
    · obtain rfl : k = n := by omega
      rw [List.take_of_length_le (by rw [tabF_len]; exact Nat.le_refl _)] at ho
      go_wp2
      go_ret
      exact ⟨_, _, vz, _, rfl, ho, HSV.out, hb'⟩

set_option maxHeartbeats 4000000 in
theorem l03Coprime_any (a n : Nat) (w : World) (ha : a ≤ 100) (hn : n ≤ 100) :
    Calls Tryz.prog 115 #[.int .i64 a, .int .i64 n] w fun e w' => IsBo e ∧ w' = w := by
  go_enter Tryz.func115, Tryz.ntmps115
  go_wp2
  go_loop [5] (fun i => ∃ d : Nat, 2 ≤ d ∧ d ≤ 200 ∧ i = .int .i64 d) (fun i => n + 1 - (intOf i).toNat)
  case atStart => exact ⟨2, by omega, by omega, rfl⟩
  case round =>
    obtain ⟨d, hd2, hd, rfl⟩ := hrel
    by_cases hlt : d ≤ n
    · have hz1 : ¬ (d : Int) = 0 := by omega
      have hz2 : ((d : Int) == 0) = false := by simpa using hz1
      have hz3 : ¬ d = 0 := by omega
      have i1 : (d : Int) ≤ (n : Int) := by omega
      have e1 : Int.tmod (a : Int) (d : Int) = ((a % d : Nat) : Int) := rfl
      have e2 : Int.tmod (n : Int) (d : Int) = ((n % d : Nat) : Int) := rfl
      have b1 : a % d ≤ 100 := Nat.le_trans (Nat.mod_le _ _) ha
      have b2 : n % d ≤ 100 := Nat.le_trans (Nat.mod_le _ _) hn
      generalize a % d = u at *
      generalize n % d = v at *
      by_cases hu : u = 0
      · subst hu
        by_cases hv : v = 0
        · subst hv
          go_wp2
          go_ret
          exact ⟨⟨_, rfl⟩, rfl⟩
        · have hv2 : ((v : Int) == 0) = false := by simpa using hv
          have hv3 : ¬ (v : Int) = 0 := by omega
          go_wp2
          go_round
          case rel => exact ⟨d + 1, by omega, by omega, by go_num⟩
          case measure => simp [intOf]; omega
      · have hv2 : ((u : Int) == 0) = false := by simpa using hu
        have hv3 : ¬ (u : Int) = 0 := by omega
        go_wp2
        go_round
        case rel => exact ⟨d + 1, by omega, by omega, by go_num⟩
        case measure => simp [intOf]; omega
    · have i1 : ¬ (d : Int) ≤ (n : Int) := by omega
      go_wp2
      go_ret
      exact ⟨⟨_, rfl⟩, rfl⟩
end Go.Proofs.YtdkpalllfekiiaaGreat
