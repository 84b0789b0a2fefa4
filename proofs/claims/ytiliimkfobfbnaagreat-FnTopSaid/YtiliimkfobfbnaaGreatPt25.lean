/-
  Walks and plain laws of this seat, some texts in one.
  No condition but bounds on lengths.
-/
import Derived.Test.YtiliimkfobfbnaaGreatPt20
import Derived.Test.YtiliimkfobfbnaaGreatPt21
import Derived.Test.YtiliimkfobfbnaaGreatPt2
import Derived.Test.YtiliimkfobfbnaaGreatPt24
import Derived.Test.YtiliimkfobfbnaaGreatPt6
import Derived.Test.YtiliimkfobfbnaaGreatPt18
import Derived.Test.YtiliimkfobfbnaaGreatPt7
import Derived.Test.YtiliimkfobfbnaaGreatPt9
import Derived.Test.YtiliimkfobfbnaaGreatPt4
namespace Go.Proofs.YtiliimkfobfbnaaGreat
set_option maxRecDepth 100000
set_option linter.unusedVariables false
set_option linter.unusedSimpArgs false
open Go.RowKit
def dblV (n sh x y : Nat) : Nat := if x < n then (if y < n then (x % n + y % n) % n else n + (x % n + y % n) % n) else (if y < n then n + (x % n + n - y % n) % n else (x % n + n - y % n + sh) % n)
set_option maxHeartbeats 8000000 in
theorem l10Double_any (n sh : Nat) (w : World) (h1 : 1 ≤ n) (hn : n ≤ 6) (hsh : sh ≤ 12) :
    Calls Tryz.prog 137 #[.int .i64 n, .int .i64 sh] w fun e w' => ∃ a c vs, e = .returned (.slice a (2 * n) c) ∧ OwnT w' w.heap.size a (2 * n) c vs (tabF (2 * n) fun x y => ((dblV n sh x y : Nat) : Int)) ∧ Below w.heap.size w w' := by
  obtain ⟨N, HN⟩ : ∃ N, Hid (2 * n = N) := ⟨_, Lib.hid rfl⟩
  have hNb : N ≤ 12 := by have := HN.out; omega
  have hnN : n ≤ N := by have := HN.out; omega
  have HWN : Hid (IntKind.i64.wrap (2 * (n : Int)) = (N : Int)) := Lib.hid ((IntWalk.i64_in _ ⟨by omega, by omega⟩).trans (by have := HN.out; omega))
  rw [HN.out]
  obtain ⟨V, HV⟩ : ∃ V : Nat → Nat → Int, Hid ((fun x y => ((dblV n sh x y : Nat) : Int)) = V) := ⟨_, Lib.hid rfl⟩
  rw [HV.out]
  have hO := OwnT.fresh w rfl
  have hB := below_al (Below.refl w.heap.size w) (.cells #[] 50)
  have hm00 : ¬ n = 0 := by omega
  go_enter Tryz.func137, Tryz.ntmps137
  go_wp2
  go_loopw [5, 6, 7] (fun z i _ wr => ∃ (k : Nat) (az : Option Addr) (cz : Nat) (vz : List SV), k ≤ N ∧ i = .int .i64 k ∧ z = .slice az k cz ∧ OwnT wr w.heap.size az k cz vz ((tabF N V).take k) ∧ Below w.heap.size w wr) (fun _ i _ _ => N - (intOf i).toNat)
  case atStart => exact ⟨0, _, 0, _, Nat.zero_le _, rfl, rfl, by simpa using hO, hB⟩
  case round =>
    clear hO hB
    obtain ⟨k, az, cz, vz, hk, rfl, rfl, ho, hb⟩ := hrel
    obtain ⟨U, rfl⟩ : ∃ U : World, U = wr := ⟨_, rfl⟩
    by_cases hlt : k < N
    · have hE := Own.fresh U rfl
      have hqe := below_al (Below.refl U.heap.size U) (.cells #[] 2)
      have hwN := HWN.out
      go_wp2
      clear hwN
      go_loopw [7, 8, 9, 10] (fun z i _ _ wq => ∃ (j : Nat) (ar : Option Addr) (cr : Nat), j ≤ N ∧ i = .int .i64 j ∧ z = .slice ar j cr ∧ Own wq U.heap.size ar j cr ((List.range j).map fun y => V k y) ∧ Below U.heap.size U wq) (fun _ i _ _ _ => N - (intOf i).toNat)
      case atStart => exact ⟨0, _, 0, Nat.zero_le _, rfl, rfl, by simpa using hE, hqe⟩
      case round =>
        clear hE hqe
        obtain ⟨j, ar, cr, hj, rfl, rfl, hor, hqr⟩ := hrel
        obtain ⟨W, rfl⟩ : ∃ W : World, W = wr := ⟨_, rfl⟩
        have hwq := hqr.size
        by_cases hjt : j < N
        · have HVK : Hid (V k j = ((dblV n sh k j : Nat) : Int)) := Lib.hid (by rw [← HV.out])
          have q3 : Int.tmod (k : Int) (n : Int) = ((k % n : Nat) : Int) := rfl
          have q4 : Int.tmod (j : Int) (n : Int) = ((j % n : Nat) : Int) := rfl
          have d3 := Nat.mod_lt k (show 0 < n by omega); have d4 := Nat.mod_lt j (show 0 < n by omega)
          have hdv : dblV n sh k j = if k < n then (if j < n then (k % n + j % n) % n else n + (k % n + j % n) % n) else (if j < n then n + (k % n + n - j % n) % n else (k % n + n - j % n + sh) % n) := rfl
          generalize k % n = I at *
          generalize j % n = J at *
          have hj12 : j + 1 ≤ 1000000000000 := by omega
          by_cases ck : k < n
          · have uk : decide ((k : Int) < (n : Int)) = true := by simp; omega
            by_cases cj : j < n
            · have uj : decide ((j : Int) < (n : Int)) = true := by simp; omega
              obtain ⟨P, hP⟩ : ∃ P, (I + J) % n = P := ⟨_, rfl⟩
              have hPn : P < n := by rw [← hP]; exact Nat.mod_lt _ (by omega)
              have q5 : Int.tmod ((I : Int) + (J : Int)) (n : Int) = (P : Int) := by rw [← hP, show ((I : Int) + (J : Int)) = ((I + J : Nat) : Int) by omega]; rfl
              have HS1 : Hid (((List.range (j + 1)).map fun y => V k y) = ((List.range j).map fun y => V k y) ++ [(P : Int)]) := Lib.hid (by rw [show ((P : Int)) = V k j by rw [HVK.out, hdv, if_pos ck, if_pos cj, hP] <;> omega]; simp [List.range_succ])
              clear hdv
              have HY1 : Hid (IntKind.i64.wrap ((I : Int) + (J : Int)) = ((I : Int) + (J : Int) : Int)) := Lib.hid ((IntWalk.i64_in _ ⟨by omega, by omega⟩).trans (by omega))
              have HY2 : Hid (IntKind.i64.wrap ((P : Int)) = (P : Int)) := Lib.hid ((IntWalk.i64_in _ ⟨by omega, by omega⟩).trans (by omega))
              have y1 := HY1.out; have y2 := HY2.out
              have hwN := HWN.out
              go_wp2
              go_quiet (fail)
              have hor1 := hor.drewN nq
              have hwq1 : U.heap.size ≤ (W.drewN nq).heap.size := hwq
              have hqr1 := below_drewN hqr nq
              go_wp2_with (at_builtin; refine app1 rfl rfl hor1 rfl rfl hj12 hwq1 ?_; intro g' cc w8 hO8 hg8 hs8 hb8)
              clear hwN y1 y2
              go_roundw
              case rel => exact ⟨j + 1, _, _, by omega, by go_num, rfl, by rw [HS1.out]; exact hO8, hqr1.trans hb8⟩
              case measure => simp [intOf]; omega
            · have uj : decide ((j : Int) < (n : Int)) = false := by simp; omega
              obtain ⟨P, hP⟩ : ∃ P, (I + J) % n = P := ⟨_, rfl⟩
              have hPn : P < n := by rw [← hP]; exact Nat.mod_lt _ (by omega)
              have q5 : Int.tmod ((I : Int) + (J : Int)) (n : Int) = (P : Int) := by rw [← hP, show ((I : Int) + (J : Int)) = ((I + J : Nat) : Int) by omega]; rfl
              have HS1 : Hid (((List.range (j + 1)).map fun y => V k y) = ((List.range j).map fun y => V k y) ++ [((n : Int) + (P : Int) : Int)]) := Lib.hid (by rw [show (((n : Int) + (P : Int) : Int)) = V k j by rw [HVK.out, hdv, if_pos ck, if_neg cj, hP] <;> omega]; simp [List.range_succ])
              clear hdv
              have HY1 : Hid (IntKind.i64.wrap ((I : Int) + (J : Int)) = ((I : Int) + (J : Int) : Int)) := Lib.hid ((IntWalk.i64_in _ ⟨by omega, by omega⟩).trans (by omega))
              have HY2 : Hid (IntKind.i64.wrap ((P : Int)) = (P : Int)) := Lib.hid ((IntWalk.i64_in _ ⟨by omega, by omega⟩).trans (by omega))
              have HY3 : Hid (IntKind.i64.wrap ((n : Int) + (P : Int)) = ((n : Int) + (P : Int) : Int)) := Lib.hid ((IntWalk.i64_in _ ⟨by omega, by omega⟩).trans (by omega))
              have y1 := HY1.out; have y2 := HY2.out; have y3 := HY3.out
              have hwN := HWN.out
              go_wp2
              go_quiet (fail)
              have hor1 := hor.drewN nq
              have hwq1 : U.heap.size ≤ (W.drewN nq).heap.size := hwq
              have hqr1 := below_drewN hqr nq
              go_wp2_with (at_builtin; refine app1 rfl rfl hor1 rfl rfl hj12 hwq1 ?_; intro g' cc w8 hO8 hg8 hs8 hb8)
              clear hwN y1 y2 y3
              go_roundw
              case rel => exact ⟨j + 1, _, _, by omega, by go_num, rfl, by rw [HS1.out]; exact hO8, hqr1.trans hb8⟩
              case measure => simp [intOf]; omega
          · have uk : decide ((k : Int) < (n : Int)) = false := by simp; omega
            by_cases cj : j < n
            · have uj : decide ((j : Int) < (n : Int)) = true := by simp; omega
              obtain ⟨D, hD⟩ : ∃ D, I + n - J = D := ⟨_, rfl⟩
              obtain ⟨P, hP⟩ : ∃ P, D % n = P := ⟨_, rfl⟩
              have hPn : P < n := by rw [← hP]; exact Nat.mod_lt _ (by omega)
              have q5 : Int.tmod (D : Int) (n : Int) = (P : Int) := by rw [← hP]; rfl
              have HS1 : Hid (((List.range (j + 1)).map fun y => V k y) = ((List.range j).map fun y => V k y) ++ [((n : Int) + (P : Int) : Int)]) := Lib.hid (by rw [show (((n : Int) + (P : Int) : Int)) = V k j by rw [HVK.out, hdv, if_neg ck, if_pos cj, hD, hP] <;> omega]; simp [List.range_succ])
              clear hdv
              have HY1 : Hid (IntKind.i64.wrap ((I : Int) - (J : Int)) = ((I : Int) - (J : Int) : Int)) := Lib.hid ((IntWalk.i64_in _ ⟨by omega, by omega⟩).trans (by omega))
              have HY2 : Hid (IntKind.i64.wrap ((I : Int) - (J : Int) + (n : Int)) = (D : Int)) := Lib.hid ((IntWalk.i64_in _ ⟨by omega, by omega⟩).trans (by omega))
              have HY3 : Hid (IntKind.i64.wrap ((P : Int)) = (P : Int)) := Lib.hid ((IntWalk.i64_in _ ⟨by omega, by omega⟩).trans (by omega))
              have HY4 : Hid (IntKind.i64.wrap ((n : Int) + (P : Int)) = ((n : Int) + (P : Int) : Int)) := Lib.hid ((IntWalk.i64_in _ ⟨by omega, by omega⟩).trans (by omega))
              have y1 := HY1.out; have y2 := HY2.out; have y3 := HY3.out; have y4 := HY4.out
              have hwN := HWN.out
              go_wp2
              go_quiet (fail)
              have hor1 := hor.drewN nq
              have hwq1 : U.heap.size ≤ (W.drewN nq).heap.size := hwq
              have hqr1 := below_drewN hqr nq
              go_wp2_with (at_builtin; refine app1 rfl rfl hor1 rfl rfl hj12 hwq1 ?_; intro g' cc w8 hO8 hg8 hs8 hb8)
              clear hwN y1 y2 y3 y4
              go_roundw
              case rel => exact ⟨j + 1, _, _, by omega, by go_num, rfl, by rw [HS1.out]; exact hO8, hqr1.trans hb8⟩
              case measure => simp [intOf]; omega
            · have uj : decide ((j : Int) < (n : Int)) = false := by simp; omega
              obtain ⟨D, hD⟩ : ∃ D, I + n - J = D := ⟨_, rfl⟩
              obtain ⟨E, hE⟩ : ∃ E, D + sh = E := ⟨_, rfl⟩
              obtain ⟨P, hP⟩ : ∃ P, E % n = P := ⟨_, rfl⟩
              have hPn : P < n := by rw [← hP]; exact Nat.mod_lt _ (by omega)
              have q5 : Int.tmod (E : Int) (n : Int) = (P : Int) := by rw [← hP]; rfl
              have HS1 : Hid (((List.range (j + 1)).map fun y => V k y) = ((List.range j).map fun y => V k y) ++ [(P : Int)]) := Lib.hid (by rw [show ((P : Int)) = V k j by rw [HVK.out, hdv, if_neg ck, if_neg cj, hD, hE, hP] <;> omega]; simp [List.range_succ])
              clear hdv
              have HY1 : Hid (IntKind.i64.wrap ((I : Int) - (J : Int)) = ((I : Int) - (J : Int) : Int)) := Lib.hid ((IntWalk.i64_in _ ⟨by omega, by omega⟩).trans (by omega))
              have HY2 : Hid (IntKind.i64.wrap ((I : Int) - (J : Int) + (n : Int)) = (D : Int)) := Lib.hid ((IntWalk.i64_in _ ⟨by omega, by omega⟩).trans (by omega))
              have HY3 : Hid (IntKind.i64.wrap ((D : Int) + (sh : Int)) = (E : Int)) := Lib.hid ((IntWalk.i64_in _ ⟨by omega, by omega⟩).trans (by omega))
              have HY4 : Hid (IntKind.i64.wrap ((P : Int)) = (P : Int)) := Lib.hid ((IntWalk.i64_in _ ⟨by omega, by omega⟩).trans (by omega))
              have y1 := HY1.out; have y2 := HY2.out; have y3 := HY3.out; have y4 := HY4.out
              have hwN := HWN.out
              go_wp2
              go_quiet (fail)
              have hor1 := hor.drewN nq
              have hwq1 : U.heap.size ≤ (W.drewN nq).heap.size := hwq
              have hqr1 := below_drewN hqr nq
              go_wp2_with (at_builtin; refine app1 rfl rfl hor1 rfl rfl hj12 hwq1 ?_; intro g' cc w8 hO8 hg8 hs8 hb8)
              clear hwN y1 y2 y3 y4
              go_roundw
              case rel => exact ⟨j + 1, _, _, by omega, by go_num, rfl, by rw [HS1.out]; exact hO8, hqr1.trans hb8⟩
              case measure => simp [intOf]; omega
        · obtain rfl : N = j := by omega
          have ho3 := ho.below hqr
          have HSU := Lib.hid (tabF_succ V hlt)
          have hbs := hb.size
          have hk12 : k + 1 ≤ 1000000000000 := by omega
          have hlo : w.heap.size ≤ W.heap.size := by omega
          have hwN := HWN.out
          go_wp2_with (at_builtin; refine appT1 rfl rfl ho3 rfl (hor.mono hbs) (fun g h1 h2 => by have h3 := ho.high _ h1; have h4 := hor.lo _ h2; omega) (fun i hi g h1 h2 => by have h3 := hor.lo _ h1; have h4 := (ho.row i hi).hi _ h2; omega) rfl hk12 hlo ?_; intro g' cc w9 hOT hb9)
          clear hwN
          go_roundw
          case rel => exact ⟨k + 1, _, _, _, by omega, by go_num, rfl, by rw [HSU.out]; exact hOT, (hb.trans (hqr.mono (by omega))).trans (hb9.mono (by omega))⟩
          case measure => simp [intOf]; omega
    · obtain rfl : N = k := by omega
      have HTK : Hid ((tabF N V).take N = tabF N V) := Lib.hid (List.take_of_length_le (by rw [tabF_len]; exact Nat.le_refl _))
      rw [HTK.out] at ho
      have hwN := HWN.out
      go_wp2
      go_ret
      exact ⟨_, _, _, rfl, ho, hb⟩
def proV (m : Nat) (s t : List (List Int)) (x y : Nat) : Nat := tv s (x / m) (y / m) * m + tv t (x % m) (y % m)
theorem proV_lt {n m : Nat} {s t : List (List Int)} (hs : Sq n s) (ht : Sq m t) {x y : Nat} (hx : x < n * m) (hy : y < n * m) : proV m s t x y < n * m := by
  have hm : 0 < m := Nat.pos_of_ne_zero (fun e => by subst e; simp at hx)
  have h1 := hs.lt (Nat.div_lt_of_lt_mul (by rwa [Nat.mul_comm] at hx)) (Nat.div_lt_of_lt_mul (by rwa [Nat.mul_comm] at hy) : y / m < n)
  have h2 := ht.lt (Nat.mod_lt x hm) (Nat.mod_lt y hm)
  unfold proV
  have h3 : (tv s (x / m) (y / m) + 1) * m ≤ n * m := Nat.mul_le_mul_right m h1
  rw [Nat.add_mul, Nat.one_mul] at h3
  omega
set_option maxHeartbeats 8000000 in
theorem l04Product_any (n m : Nat) (a b : Option Addr) (c d : Nat) (s t : List (List Int)) (w : World) (h1 : Tbl w a n s) (h2 : Tbl w b m t) (hs : Sq n s) (ht : Sq m t) (hn : 1 ≤ n) (hm : 1 ≤ m) (hnm : n * m ≤ 12) :
    Calls Tryz.prog 121 #[.slice a n c, .slice b m d] w fun e w' => ∃ a1 c1 vs, e = .returned (.slice a1 (n * m) c1) ∧ OwnT w' w.heap.size a1 (n * m) c1 vs (tabF (n * m) fun x y => ((proV m s t x y : Nat) : Int)) ∧ Below w.heap.size w w' := by
  have hnb : n ≤ 12 := Nat.le_trans (Nat.le_mul_of_pos_right n hm) hnm
  have hmb : m ≤ 12 := Nat.le_trans (Nat.le_mul_of_pos_left m hn) hnm
  obtain ⟨N, HN⟩ : ∃ N, Hid (n * m = N) := ⟨_, Lib.hid rfl⟩
  have hnz : (n : Int) * (m : Int) = (N : Int) := by rw [← HN.out]; exact (Int.natCast_mul n m).symm
  have HPL : Hid (∀ x y, x < N → y < N → proV m s t x y < N) := Lib.hid fun x y hx hy => by rw [← HN.out] at hx hy ⊢; exact proV_lt hs ht hx hy
  have HDV : Hid (∀ x, x < N → x / m < n) := Lib.hid fun x hx => Nat.div_lt_of_lt_mul (by rw [← HN.out, Nat.mul_comm] at hx; exact hx)
  rw [HN.out] at hnm ⊢
  obtain ⟨V, HV⟩ : ∃ V : Nat → Nat → Int, Hid ((fun x y => ((proV m s t x y : Nat) : Int)) = V) := ⟨_, Lib.hid rfl⟩
  rw [HV.out]
  have HS := Lib.hid hs; have HT := Lib.hid ht
  obtain ⟨ba, oa, A, O, C, rfl, ga⟩ := h1.grid hs hn
  obtain ⟨bb, ob, A', O', C', rfl, gb⟩ := h2.grid ht hm
  clear h1 h2 hs ht
  have hO := OwnT.fresh w rfl
  have hB := below_al (Below.refl w.heap.size w) (.cells #[] 50)
  have HWN : Hid (IntKind.i64.wrap (N : Int) = (N : Int)) := Lib.hid (IntWalk.i64_in _ ⟨by omega, by omega⟩)
  go_enter Tryz.func121, Tryz.ntmps121
  go_wp2
  go_loopw [7, 8, 9] (fun z i _ wr => ∃ (k : Nat) (az : Option Addr) (cz : Nat) (vz : List SV), k ≤ N ∧ i = .int .i64 k ∧ z = .slice az k cz ∧ OwnT wr w.heap.size az k cz vz ((tabF N V).take k) ∧ Below w.heap.size w wr) (fun _ i _ _ => N - (intOf i).toNat)
  case atStart => exact ⟨0, _, 0, _, Nat.zero_le _, rfl, rfl, by simpa using hO, hB⟩
  case round =>
    clear hO hB
    obtain ⟨k, az, cz, vz, hk, rfl, rfl, ho, hb⟩ := hrel
    obtain ⟨U, rfl⟩ : ∃ U : World, U = wr := ⟨_, rfl⟩
    by_cases hlt : k < N
    · have hE := Own.fresh U rfl
      have hqe := below_al (Below.refl U.heap.size U) (.cells #[] 2)
      have hwN := HWN.out
      go_wp2
      clear hwN
      go_loopw [9, 10] (fun z i wq => ∃ (j : Nat) (ar : Option Addr) (cr : Nat), j ≤ N ∧ i = .int .i64 j ∧ z = .slice ar j cr ∧ Own wq U.heap.size ar j cr ((List.range j).map fun y => V k y) ∧ Below U.heap.size U wq) (fun _ i _ => N - (intOf i).toNat)
      case atStart => exact ⟨0, _, 0, Nat.zero_le _, rfl, rfl, by simpa using hE, hqe⟩
      case round =>
        clear hE hqe
        obtain ⟨j, ar, cr, hj, rfl, rfl, hor, hqr⟩ := hrel
        have hwq := hqr.size
        by_cases hjt : j < N
        · have hX := HPL.out k j hlt hjt
          have hV : V k j = ((proV m s t k j : Nat) : Int) := by rw [← HV.out]
          have d1 := HDV.out k hlt; have d2 := HDV.out j hjt
          have d3 := Nat.mod_lt k (show 0 < m by omega); have d4 := Nat.mod_lt j (show 0 < m by omega)
          have hpv : proV m s t k j = tv s (k / m) (j / m) * m + tv t (k % m) (j % m) := rfl
          have q1 : Int.tdiv (k : Int) (m : Int) = ((k / m : Nat) : Int) := rfl
          have q2 : Int.tdiv (j : Int) (m : Int) = ((j / m : Nat) : Int) := rfl
          have q3 : Int.tmod (k : Int) (m : Int) = ((k % m : Nat) : Int) := rfl
          have q4 : Int.tmod (j : Int) (m : Int) = ((j % m : Nat) : Int) := rfl
          have hBq := hb.trans (hqr.mono hb.size)
          have ga2 := ga.below hBq; have gb2 := gb.below hBq
          obtain ⟨r1, k1⟩ := ga2.look d1 d2
          obtain ⟨r2, k2⟩ := gb2.look d3 d4
          generalize k / m = K1 at *
          generalize j / m = J1 at *
          generalize k % m = K2 at *
          generalize j % m = J2 at *
          obtain ⟨P, hP⟩ : ∃ P, tv s K1 J1 = P := ⟨_, rfl⟩
          obtain ⟨Q, hQ⟩ : ∃ Q, tv t K2 J2 = Q := ⟨_, rfl⟩
          rw [hP] at k1 hpv; rw [hQ] at k2 hpv
          obtain ⟨X, hXX⟩ : ∃ X, proV m s t k j = X := ⟨_, rfl⟩
          obtain ⟨PM, hPM⟩ : ∃ PM, P * m = PM := ⟨_, rfl⟩
          rw [hXX] at hX hV hpv
          rw [hPM] at hpv
          have e1 : (P : Int) * (m : Int) = (PM : Int) := by rw [← hPM]; exact (Int.natCast_mul P m).symm
          have e2 : (PM : Int) + (Q : Int) = (X : Int) := by omega
          have HS1 : Hid (((List.range (j + 1)).map fun y => V k y) = ((List.range j).map fun y => V k y) ++ [(X : Int)]) := Lib.hid (by rw [← hV]; simp [List.range_succ])
          have hm0 : ¬ (m : Int) = 0 := by omega
          have hm00 : ¬ m = 0 := by omega
          have hm1 : ((m : Int) == 0) = false := by simpa using hm0
          have hj12 : j + 1 ≤ 1000000000000 := by omega
          have i1 : (0 : Int) ≤ (K1 : Int) := by omega
          have i2 : (K1 : Int) < (n : Int) := by omega
          have i3 : (0 : Int) ≤ (J1 : Int) := by omega
          have i4 : (J1 : Int) < (n : Int) := by omega
          have i5 : (0 : Int) ≤ (K2 : Int) := by omega
          have i6 : (K2 : Int) < (m : Int) := by omega
          have i7 : (0 : Int) ≤ (J2 : Int) := by omega
          have i8 : (J2 : Int) < (m : Int) := by omega
          have HWs : Hid (IntKind.i64.wrap (K1 : Int) = K1 ∧ IntKind.i64.wrap (J1 : Int) = J1 ∧ IntKind.i64.wrap (PM : Int) = PM ∧ IntKind.i64.wrap (X : Int) = X ∧ IntKind.i64.wrap (K2 : Int) = K2 ∧ IntKind.i64.wrap (J2 : Int) = J2) := Lib.hid ⟨IntWalk.i64_in _ ⟨by omega, by omega⟩, IntWalk.i64_in _ ⟨by omega, by omega⟩, IntWalk.i64_in _ ⟨by omega, by omega⟩, IntWalk.i64_in _ ⟨by omega, by omega⟩, IntWalk.i64_in _ ⟨by omega, by omega⟩, IntWalk.i64_in _ ⟨by omega, by omega⟩⟩
          have x1 := ga2.lt; have x2 := ga2.rlt K1 d1; have x3 := gb2.lt; have x4 := gb2.rlt K2 d3
          have hrel1 : Hid (Below w.heap.size w wr) := Lib.hid hBq
          clear ga2 gb2 hP hQ hXX hPM hpv hV hX hBq
          obtain ⟨y1, y2, y3, y4, y5, y6⟩ := HWs.out
          have hwN := HWN.out
          go_wp2
          go_region_law (refine step_app1 rfl rfl hor rfl rfl hj12 hwq ?_; intro g' cc w8 hO8 hg8 hs8 hb8)
          all_goals
            clear y1 y2 y3 y4 y5 y6 hwN
            go_wp2
            go_roundw
            case rel => exact ⟨j + 1, _, _, by omega, by go_num, rfl, by rw [HS1.out]; exact hO8, hqr.trans hb8⟩
            case measure => simp [intOf]; omega
        · obtain rfl : N = j := by omega
          have ho3 := ho.below hqr
          have HSU := Lib.hid (tabF_succ V hlt)
          have hbs := hb.size
          have hwN := HWN.out
          have hk12 : k + 1 ≤ 1000000000000 := by omega
          have hlo : w.heap.size ≤ wr.heap.size := by omega
          go_wp2_with (at_builtin; refine appT1 rfl rfl ho3 rfl (hor.mono hbs) (fun g h1 h2 => by have h3 := ho.high _ h1; have h4 := hor.lo _ h2; omega) (fun i hi g h1 h2 => by have h3 := hor.lo _ h1; have h4 := (ho.row i hi).hi _ h2; omega) rfl hk12 hlo ?_; intro g' cc w9 hOT hb9)
          clear hwN
          go_roundw
          case rel => exact ⟨k + 1, _, _, _, by omega, by go_num, rfl, by rw [HSU.out]; exact hOT, (hb.trans (hqr.mono (by omega))).trans (hb9.mono (by omega))⟩
          case measure => simp [intOf]; omega
    · obtain rfl : N = k := by omega
      have HTK : Hid ((tabF N V).take N = tabF N V) := Lib.hid (List.take_of_length_le (by rw [tabF_len]; exact Nat.le_refl _))
      rw [HTK.out] at ho
      have hwN := HWN.out
      go_wp2
      go_ret
      exact ⟨_, _, _, rfl, ho, hb⟩
def foldO {α : Type} (g : α → Nat → Option α) : Nat → α → Option α
  | 0, a => some a
  | n + 1, a => (foldO g n a).bind fun b => g b n
theorem foldO_le {α : Type} {g : α → Nat → Option α} {n : Nat} {a r : α} (h : foldO g n a = some r) : ∀ {k : Nat}, k ≤ n → ∃ s, foldO g k a = some s := by
  induction n generalizing r with
  | zero => intro k hk; obtain rfl : k = 0 := by omega
            exact ⟨a, rfl⟩
  | succ n ih =>
    intro k hk
    unfold foldO at h
    rcases Nat.lt_or_ge k (n + 1) with h1 | h1
    · cases hb : foldO g n a with
      | none => rw [hb] at h; cases h
      | some b => exact ih hb (by omega)
    · obtain rfl : k = n + 1 := by omega
      exact ⟨r, h⟩
theorem foldO_none {α : Type} {g : α → Nat → Option α} {n k : Nat} {a : α} (h : foldO g k a = none) (hk : k ≤ n) : foldO g n a = none := by
  cases hn : foldO g n a with
  | none => rfl
  | some r => obtain ⟨s, hs⟩ := foldO_le hn hk; rw [hs] at h; cases h
theorem foldO_succ {α : Type} {g : α → Nat → Option α} {k : Nat} {a s : α} (h : foldO g k a = some s) : foldO g (k + 1) a = g s k := by
  show (foldO g k a).bind _ = _; rw [h]; rfl
def fitV (T : List (List Int)) (f : List Int) (x y : Nat) : Bool :=
  (decide (f.length - 1 < tv T x y) || (decide (x < f.length - 1) && decide (y < f.length - 1) && decide (tv T x y < f.length - 1))) || decide (f.getD (tv T x y) 0 = ((tv T (f.getD x 0).toNat (f.getD y 0).toNat : Nat) : Int))
def fitF (T : List (List Int)) (f : List Int) : Bool := allN f.length fun x => allN f.length fun y => fitV T f x y
def insR (v : Int) : List Int → List Int
  | [] => [v]
  | y :: l => if v < y then y :: insR v l else v :: y :: l
def srtR : List Int → List Int → List Int
  | s, [] => s
  | s, x :: l => srtR (insR x s) l
def bitI (p : Prop) [Decidable p] (k : Int) : Int := if p then k else 0
def ownV (T : List (List Int)) (x y : Nat) : Int := bitI (tv T x y = y) 1 + bitI (tv T y x = y) 2 + bitI (tv T x y = x) 4 + bitI (tv T y x = x) 8
def mk1 (T : List (List Int)) (c : List Int) (x y : Nat) : Int := ((c.getD y 0 * 64 + c.getD (tv T x y) 0) * 64 + c.getD (tv T y x) 0) * 16 + ownV T x y
def cntV (T : List (List Int)) (x y : Nat) : Nat → Nat
  | 0 => 0
  | z + 1 => if tv T y z = x then cntV T x y z + 1 else cntV T x y z
def mk2 (T : List (List Int)) (n : Nat) (c : List Int) (x y : Nat) : Int := 1099511627776 + c.getD y 0 * 64 + (cntV T x y n : Int)
def mrkL (T : List (List Int)) (n : Nat) (c : List Int) (x : Nat) : List Int := ((List.range n).map fun y => mk1 T c x y) ++ (List.range n).map fun y => mk2 T n c x y
def mrkF (T : List (List Int)) (n : Nat) (c : List Int) (x : Nat) : List Int := c.getD x 0 :: (srtR [] (mrkL T n c x)).reverse
def insK (m : List Int) : List (List Int) → List (List Int)
  | [] => [m]
  | y :: l => if cmpL y m < 0 then y :: insK m l else if y = m then y :: l else m :: y :: l
def kndF : List (List Int) → List (List Int) → List (List Int)
  | s, [] => s
  | s, m :: l => kndF (insK m s) l
def idxF (m : List Int) : List (List Int) → Nat
  | [] => 0
  | k :: l => if k = m then 0 else idxF m l + 1
def mrks (T : List (List Int)) (n : Nat) (c d : List Int) : List (List Int) := ((List.range n).map fun x => mrkF T n c x) ++ (List.range n).map fun x => mrkF T n d x
def nmkL (ms : List (List Int)) : List Int := ms.map fun m => ((idxF m (kndF [] ms) : Nat) : Int)
def cntI (v : Int) : List Int → Int
  | [] => 0
  | x :: l => if x = v then cntI v l + 1 else cntI v l
def balB (n : Nat) (cs : List Int) (k : Nat) : Bool := allN k fun i => decide (cntI (i : Int) (cs.take n) - cntI (i : Int) (cs.drop n) = 0)
def refF (T : List (List Int)) (n : Nat) : Nat → List Int → List Int → Nat → Option (Option (List Int × List Int))
  | 0, _, _, _ => none
  | k + 1, c, d, number =>
    if balB n (nmkL (mrks T n c d)) (kndF [] (mrks T n c d)).length = true then
      if (kndF [] (mrks T n c d)).length = number then some (some ((nmkL (mrks T n c d)).take n, (nmkL (mrks T n c d)).drop n)) else refF T n k ((nmkL (mrks T n c d)).take n) ((nmkL (mrks T n c d)).drop n) (kndF [] (mrks T n c d)).length
    else some none
def skF (T : List (List Int)) (n : Nat) : Nat → List Int → List Int → List Int → Option (List (List Int))
  | 0, f, _, _ => some [f]
  | k + 1, f, c, d => foldO (fun out (y : Nat) =>
      if (y : Int) ∈ f ∨ c.getD f.length 0 ≠ d.getD y 0 ∨ fitF T (f ++ [(y : Int)]) = false then some out
      else match refF T n (2 * n + 2) (c.set f.length 60) (d.set y 60) 0 with
        | none => none
        | some none => some out
        | some (some r) => (skF T n k (f ++ [(y : Int)]) r.1 r.2).bind fun l => some (out ++ l)) n []
def mapF (T : List (List Int)) (n : Nat) : Option (List (List Int)) :=
  if fitF T [0] = false then some [] else
  match refF T n (2 * n + 2) ((List.replicate n (0 : Int)).set 0 60) ((List.replicate n (0 : Int)).set 0 60) 0 with
  | none => none
  | some none => some []
  | some (some r) => skF T n (n - 1) [0] r.1 r.2
def fndF (l : List Int) : List (List Int) → Int
  | [] => -1
  | a :: A => if a = l then 0 else (if fndF l A < 0 then -1 else fndF l A + 1)
def spW (T A : List (List Int)) (out : List Int) (x y : Nat) : Int := fndF (thL (A.getD (out.getD y 0).toNat []) (A.getD (out.getD x 0).toNat [])) A
def spZ (T A : List (List Int)) (out : List Int) (x y : Nat) : Nat := tv T x (tv A (out.getD x 0).toNat y)
def insC (c : List (List Int)) : List (List (List Int)) → List (List (List Int))
  | [] => [c]
  | y :: l => if befS [y] [c] = true then y :: insC c l else c :: y :: l
def negF : List Int → Nat
  | [] => 0
  | v :: l => if v < 0 then 0 else negF l + 1
def cirV (T A : List (List Int)) (n : Nat) (known : List Int) : List (List Int) := (List.range n).map fun y => thL (A.getD (known.getD y 0).toNat []) (T.getD y [])
def knwN (n : Nat) : List Int := (List.replicate n (-1 : Int)).set 0 0
theorem ownsRowQ_mk {w : World} {lo g n c : Nat} {vs : List SV} {cur : Array Value} (hn : vs.length = n) (h1 : lo ≤ g) (h2 : Loc w g cur 125) (h3 : n ≤ c) (h4 : c ≤ maxLen) (h5 : cur.size = c) (h6 : cur.toList.take n = vs.map sl) :
    w.ownsRow lo 125 1 (.slice (some ⟨g, 0, none⟩) n c) n (vs.map sl) :=
  ⟨by simp [hn], .inr ⟨g, c, cur, rfl, h1, h2, h3, h4, by simpa using h5, by simpa using h6⟩⟩
def Hq (w : World) (lo : Nat) (a : Option Addr) (n c : Nat) (vs : List SV) : Prop := vs.length = n ∧ w.ownsRow lo 125 1 (.slice a n c) n (vs.map sl)
section
variable {w w' : World} {lo : Nat} {a : Option Addr} {n c : Nat} {vs : List SV}
theorem Hq.nil (w : World) (lo : Nat) : Hq w lo none 0 0 [] := ⟨rfl, World.ownsRow_nil w lo _ 1⟩
theorem Hq.block (h : Hq w lo a n c vs) : (a = none ∧ n = 0 ∧ c = 0) ∨ ∃ g cur, a = some ⟨g, 0, none⟩ ∧ lo ≤ g ∧ Loc w g cur 125 ∧ n ≤ c ∧ c ≤ maxLen ∧ cur.size = c ∧ cur.toList.take n = vs.map sl := by
  rcases h.2.2 with ⟨h1, h2⟩ | ⟨g, cap, cur, h1, h2, h3, h4, h5, h6, h7⟩
  · cases h1; exact .inl ⟨rfl, rfl, rfl⟩
  · cases h1; exact .inr ⟨g, cur, rfl, h2, h3, h4, h5, by simpa using h6, by simpa using h7⟩
theorem Hq.hi (h : Hq w lo a n c vs) : ∀ g, a = some ⟨g, 0, none⟩ → g < w.heap.size := by
  intro g hg
  rcases h.block with ⟨h1, _⟩ | ⟨g', cur, h1, h2, h3, _⟩
  · rw [h1] at hg; cases hg
  · rw [h1] at hg; cases hg; exact h3.lt
theorem Hq.low (h : Hq w lo a n c vs) : ∀ g, a = some ⟨g, 0, none⟩ → lo ≤ g := by
  intro g hg
  rcases h.block with ⟨h1, _⟩ | ⟨g', cur, h1, h2, h3, _⟩
  · rw [h1] at hg; cases hg
  · rw [h1] at hg; cases hg; exact h2
theorem Hq.keep (h : Hq w lo a n c vs) (hk : ∀ g, a = some ⟨g, 0, none⟩ → g < w.heap.size → w'.heap[g]? = w.heap[g]?) : Hq w' lo a n c vs := by
  rcases h.block with ⟨h1, h2, h3⟩ | ⟨g, cur, h1, h2, h3, h4, h5, h6, h7⟩
  · subst h1 h2 h3
    have : vs = [] := List.eq_nil_of_length_eq_zero h.1
    subst this; exact Hq.nil _ _
  · subst h1
    exact ⟨h.1, ownsRowQ_mk h.1 h2 ((hk g rfl h3.lt).trans h3) h4 h5 h6 h7⟩
theorem Hq.below (h : Hq w lo a n c vs) (hb : Below w.heap.size w w') : Hq w' lo a n c vs := h.keep fun g _ hlt => hb.block g hlt
theorem Hq.alloc (h : Hq w lo a n c vs) (o : Obj) : Hq (w.alloc o) lo a n c vs := h.below ((Below.refl _ _).alloc (Nat.le_refl _) o)
theorem Hq.drewN (h : Hq w lo a n c vs) (k : Nat) : Hq (w.drewN k) lo a n c vs := h.keep fun _ _ _ => rfl
theorem Hq.mono {lo' : Nat} (h : Hq w lo a n c vs) (hl : lo' ≤ lo) : Hq w lo' a n c vs := by
  rcases h.block with ⟨h1, h2, h3⟩ | ⟨g, cur, h1, h2, h3, h4, h5, h6, h7⟩
  · subst h1 h2 h3
    have : vs = [] := List.eq_nil_of_length_eq_zero h.1
    subst this; exact Hq.nil _ _
  · subst h1; exact ⟨h.1, ownsRowQ_mk h.1 (Nat.le_trans hl h2) h3 h4 h5 h6 h7⟩
theorem Hq.read (h : Hq w lo a n c vs) : HdR w a n vs := by
  refine ⟨h.1, fun i hi => ?_⟩
  rcases h.block with ⟨h1, h2, h3⟩ | ⟨g, cur, h1, h2, h3, h4, h5, h6, h7⟩
  · omega
  · refine ⟨g, 0, h1, h3.lt, ?_⟩
    rw [Nat.zero_add]
    refine h3.cell i ?_
    have hx : (cur.toList.take n)[i]? = (vs.map sl)[i]? := by rw [h7]
    have hxi : i < vs.length := by have := h.1; omega
    rw [List.getElem?_take, if_pos hi] at hx
    simp [List.getElem?_eq_getElem hxi] at hx
    simp [List.getD_eq_getElem?_getD, List.getElem?_eq_getElem hxi, hx]
end
theorem Hq.fresh (w : World) {b : Nat} (hb : b = w.heap.size) : Hq (w.alloc (.cells #[] 125)) w.heap.size (some ⟨b, 0, none⟩) 0 0 [] :=
  ⟨rfl, ownsRowQ_mk rfl (by omega) (Loc.new _ hb _ _) (Nat.le_refl _) (by unfold maxLen; omega) rfl rfl⟩
theorem Hq.one (w : World) {b : Nat} (hb : b = w.heap.size) (v : SV) : Hq (w.alloc (.cells #[.slice v.1 v.2.1 v.2.2] 125)) w.heap.size (some ⟨b, 0, none⟩) 1 1 [v] :=
  ⟨rfl, ownsRowQ_mk rfl (by omega) (Loc.new _ hb _ _) (Nat.le_refl _) (by unfold maxLen; omega) rfl rfl⟩
theorem HdR.take {w : World} {a : Option Addr} {n k : Nat} {vs : List SV} (h : HdR w a n vs) (hk : k ≤ n) : HdR w a k (vs.take k) := by
  refine ⟨by rw [List.length_take]; have := h.1; omega, fun i hi => ?_⟩
  obtain ⟨b, off, h1, h2, h3⟩ := h.2 i (by omega)
  exact ⟨b, off, h1, h2, by rw [h3]; simp [List.getD_eq_getElem?_getD, List.getElem?_take, hi]⟩
theorem HdR.drop {w : World} {b off n k : Nat} {vs : List SV} (h : HdR w (some ⟨b, off, none⟩) n vs) (hk : k ≤ n) : HdR w (some ⟨b, off + k, none⟩) (n - k) (vs.drop k) := by
  refine ⟨by rw [List.length_drop]; have := h.1; omega, fun i hi => ?_⟩
  obtain ⟨b', off', h1, h2, h3⟩ := h.2 (k + i) (by omega)
  cases h1
  exact ⟨b, off + k, rfl, h2, by rw [Nat.add_assoc, h3]; simp [List.getD_eq_getElem?_getD, List.getElem?_drop]⟩
theorem HdR.nil {w : World} (a : Option Addr) : HdR w a 0 [] := ⟨rfl, fun i h => absurd h (by omega)⟩
structure LstQ (w : World) (a : Option Addr) (n : Nat) (vs : List SV) (L : List (List (List (List Int)))) : Prop where
  hd : HdR w a n vs
  len : n = L.length
  el : ∀ i, i < n → TbS w (vs.getD i svO).1 (vs.getD i svO).2.1 (L.getD i []) ∧ (vs.getD i svO).2.1 ≤ 9223372036854775807
theorem LstQ.below {w w' : World} {a : Option Addr} {n : Nat} {vs : List SV} {L : List (List (List (List Int)))} (h : LstQ w a n vs L) (hb : Below w.heap.size w w') : LstQ w' a n vs L :=
  ⟨h.hd.below hb, h.len, fun i hi => ⟨(h.el i hi).1.below hb, (h.el i hi).2⟩⟩
end Go.Proofs.YtiliimkfobfbnaaGreat
