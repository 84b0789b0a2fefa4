/-
  The reference's test whether rows and columns are those of a solution.
  No condition but bounds.
-/
import Derived.Test.YthgafpeblpnolaaGreatTurS
namespace Go.Proofs.YthgafpeblpnolaaGreat
set_option maxRecDepth 100000
set_option linter.unusedVariables false
set_option linter.unusedSimpArgs false
open Go.RowKit

/-- what one look reads -/
theorem brd_reads (n : Nat) (f r : List (List Int)) (hf : Sq n f) (hr : Sq n r) {x y z : Nat} (hx : x < n) (hy : y < n) (hz : z < n) :
    ∃ a b c d u1 u2 u3 v2 v3 v4 w1 w3 : Nat, (a < n ∧ b < n ∧ c < n ∧ d < n ∧ u2 < n ∧ v3 < n) ∧ (tv f x y = a ∧ tv r y x = b ∧ tv f y z = c ∧ tv r z y = d ∧ tv f x c = u1 ∧ tv f b z = u2) ∧
      (tv f a u2 = u3 ∧ tv r z b = v2 ∧ tv r c x = v3 ∧ tv r d v3 = v4 ∧ tv f v3 d = w1 ∧ tv r u2 a = w3) ∧
      eqAt f (trnL n r) x y z = ((decide (u3 = u1) && decide (w3 = w1)) && decide (v2 = v4)) := by
  have h1 := hf.lt hx hy
  have h2 := hr.lt hy hx
  have h3 := hf.lt hy hz
  have h4 := hr.lt hz hy
  have h5 := hf.lt h2 hz
  have h6 := hr.lt h3 hx
  refine ⟨_, _, _, _, _, _, _, _, _, _, _, _, ⟨h1, h2, h3, h4, h5, h6⟩, ⟨rfl, rfl, rfl, rfl, rfl, rfl⟩, ⟨rfl, rfl, rfl, rfl, rfl, rfl⟩, ?_⟩
  unfold eqAt
  dsimp only
  rw [trnL_tv hx hy, trnL_tv h2 hz, trnL_tv hy hz, trnL_tv h1 h5, trnL_tv hx h3, trnL_tv h6 h4]

set_option maxHeartbeats 16000000 in
theorem l19Braids_any (n : Nat) (a1 a2 : Option Addr) (c1 c2 : Nat) (f r : List (List Int)) (w : World) (h1 : Tbl w a1 n f) (h2 : Tbl w a2 n r) (hf : Sq n f) (hr : Sq n r) (hn1 : 1 ≤ n) (hn : n ≤ 12) :
    Calls Tryz.prog 137 #[.slice a1 n c1, .slice a2 n c2] w fun e w' => e = .returned (.bool (solF n f r)) ∧ Below w.heap.size w w' := by
  have hE : Hid (isSol f (trnL n r) = (collOk n f (trnL n r) && eqOk n f (trnL n r))) := Lib.hid (by
    have e1 := sq_isTab hf hn1 (by omega)
    have e2 := sq_isTab (trnL_sq hr) hn1 (by omega)
    unfold isSol isPm
    rw [e1, e2, hf.1, (trnL_sq hr).1]; simp)
  have HFN : Hid (eqOk n f (trnL n r) = false → solF n f r = false) := Lib.hid fun h => by unfold solF; rw [h]; rfl
  have HFY : Hid (eqOk n f (trnL n r) = true → isSol f (trnL n r) = solF n f r) := Lib.hid fun h => by rw [hE.out]; unfold solF; rw [h, Bool.and_comm]
  have HR := Lib.hid hr
  have t1 := h1; have t2 := h2
  obtain ⟨bf, of, A, O, C, rfl, Gf⟩ := h1.grid hf hn1
  obtain ⟨bg, og, A', O', C', rfl, Gg⟩ := h2.grid hr hn1
  clear h1 h2
  go_enter Tryz.func137, Tryz.ntmps137
  go_wp2
  go_loopw [6, 7, 8, 9, 10, 11, 12] (fun i _ _ _ _ _ _ wr => ∃ k : Nat, k ≤ n ∧ i = .int .i64 k ∧ Hid (allN k (fun x => allN n fun y => allN n fun z => eqAt f (trnL n r) x y z) = true) ∧ ∃ m, wr = w.drewN m) (fun i _ _ _ _ _ _ _ => n - (intOf i).toNat)
  case atStart => exact ⟨0, Nat.zero_le _, rfl, Lib.hid rfl, 0, rfl⟩
  case round =>
    obtain ⟨x, hx, rfl, hx1, m1, rfl⟩ := hrel
    by_cases hlt : x < n
    · go_wp2
      go_loopw [7, 8, 9, 10, 11, 12] (fun i _ _ _ _ _ wr => ∃ k : Nat, k ≤ n ∧ i = .int .i64 k ∧ Hid (allN k (fun y => allN n fun z => eqAt f (trnL n r) x y z) = true) ∧ ∃ m, wr = w.drewN m) (fun i _ _ _ _ _ _ => n - (intOf i).toNat)
      case atStart => exact ⟨0, Nat.zero_le _, rfl, Lib.hid rfl, m1, rfl⟩
      case round =>
        obtain ⟨y, hy, rfl, hy1, m2, rfl⟩ := hrel
        by_cases hlty : y < n
        · obtain ⟨av, ha⟩ : ∃ av, tv f x y = av := ⟨_, rfl⟩
          obtain ⟨bv, hbv⟩ : ∃ bv, tv r y x = bv := ⟨_, rfl⟩
          obtain ⟨r1, k1⟩ := Gf.look hlt hlty
          obtain ⟨r2, k2⟩ := Gg.look hlty hlt
          rw [ha] at k1
          rw [hbv] at k2
          have HAB := Lib.hid (And.intro ha hbv)
          have i1 : (0 : Int) ≤ (x : Int) := by omega
          have i2 : (x : Int) < (n : Int) := by omega
          have i3 : (0 : Int) ≤ (y : Int) := by omega
          have i4 : (y : Int) < (n : Int) := by omega
          clear ha hbv
          go_wp2
          go_quiet (fail)
          go_wp2
          go_loopw [10, 11, 12] (fun i _ _ wr => ∃ k : Nat, k ≤ n ∧ i = .int .i64 k ∧ Hid (allN k (fun z => eqAt f (trnL n r) x y z) = true) ∧ ∃ m, wr = w.drewN m) (fun i _ _ _ => n - (intOf i).toNat)
          case atStart => exact ⟨0, Nat.zero_le _, rfl, Lib.hid rfl, m2 + nq, by rw [World.drewN_drewN]⟩
          case round =>
            obtain ⟨z, hz, rfl, hz1, m3, rfl⟩ := hrel
            by_cases hltz : z < n
            · obtain ⟨a, b, c, d, u1, u2, u3, v2, v3, v4, w1, w3, ⟨l1, l2, l3, l4, l5, l6⟩, ⟨q1, q2, q3, q4, q5, q6⟩, ⟨q7, q8, q9, q10, q11, q12⟩, hE3⟩ := brd_reads n f r hf HR.out hlt hlty hltz
              obtain rfl : av = a := by rw [← q1]; exact HAB.out.1.symm
              obtain rfl : bv = b := by rw [← q2]; exact HAB.out.2.symm
              obtain ⟨r3, k3⟩ := Gf.look hlty hltz
              obtain ⟨r4, k4⟩ := Gg.look hltz hlty
              obtain ⟨r5, k5⟩ := Gf.look hlt l3
              obtain ⟨r6, k6⟩ := Gf.look l2 hltz
              obtain ⟨r7, k7⟩ := Gf.look l1 l5
              obtain ⟨r8, k8⟩ := Gg.look hltz l2
              obtain ⟨r9, k9⟩ := Gg.look l3 hlt
              obtain ⟨r10, k10⟩ := Gg.look l4 l6
              obtain ⟨r11, k11⟩ := Gf.look l6 l4
              obtain ⟨r12, k12⟩ := Gg.look l5 l1
              rw [q3] at k3; rw [q4] at k4; rw [q5] at k5; rw [q6] at k6; rw [q7] at k7; rw [q8] at k8; rw [q9] at k9; rw [q10] at k10; rw [q11] at k11; rw [q12] at k12
              have HE := Lib.hid hE3
              have j1 : (0 : Int) ≤ (z : Int) := by omega
              have j2 : (z : Int) < (n : Int) := by omega
              have j3 : (0 : Int) ≤ (av : Int) := by omega
              have j4 : (av : Int) < (n : Int) := by omega
              have j5 : (0 : Int) ≤ (bv : Int) := by omega
              have j6 : (bv : Int) < (n : Int) := by omega
              have j7 : (0 : Int) ≤ (c : Int) := by omega
              have j8 : (c : Int) < (n : Int) := by omega
              have j9 : (0 : Int) ≤ (d : Int) := by omega
              have j10 : (d : Int) < (n : Int) := by omega
              have j11 : (0 : Int) ≤ (u2 : Int) := by omega
              have j12 : (u2 : Int) < (n : Int) := by omega
              have j13 : (0 : Int) ≤ (v3 : Int) := by omega
              have j14 : (v3 : Int) < (n : Int) := by omega
              clear q1 q2 q3 q4 q5 q6 q7 q8 q9 q10 q11 q12 hE3 l1 l2 l3 l4 l5 l6
              by_cases p1 : u3 = u1
              · by_cases p2 : v2 = v4
                · by_cases p3 : w3 = w1
                  · have o1 : ((u1 : Int) != (u3 : Int)) = false := by simp [p1]
                    have o2 : ((v2 : Int) != (v4 : Int)) = false := by simp [p2]
                    have o3 : ((w1 : Int) != (w3 : Int)) = false := by simp [p3]
                    have HE2 : Hid (eqAt f (trnL n r) x y z = true) := Lib.hid (by rw [HE.out]; simp [p1, p2, p3])
                    clear p1 p2 p3
                    go_wp2
                    go_quiet (fail)
                    go_wp2
                    simp only [List.append_eq, List.cons_append, List.nil_append]
                    go_big_quiet (fail)
                    go_wp2
                    go_roundw
                    case rel => exact ⟨z + 1, by omega, by go_num, Lib.hid (allN_succ hz1.out HE2.out), _, rfl⟩
                    case measure => simp [intOf]; omega
                  · have o1 : ((u1 : Int) != (u3 : Int)) = false := by simp [p1]
                    have o2 : ((v2 : Int) != (v4 : Int)) = false := by simp [p2]
                    have o3 : ((w1 : Int) != (w3 : Int)) = true := by simp; omega
                    have HE2 : Hid (eqAt f (trnL n r) x y z = false) := Lib.hid (by rw [HE.out]; simp [p3])
                    clear p1 p2 p3
                    go_wp2
                    go_quiet (fail)
                    go_wp2
                    simp only [List.append_eq, List.cons_append, List.nil_append]
                    go_big_quiet (fail)
                    go_wp2
                    go_ret
                    exact ⟨ret_bool (HFN.out (allN_no hlt (allN_no hlty (allN_no hltz HE2.out)))).symm, below_drewN (below_drewN (below_drewN (Below.refl _ _) _) _) _⟩
                · have o1 : ((u1 : Int) != (u3 : Int)) = false := by simp [p1]
                  have o2 : ((v2 : Int) != (v4 : Int)) = true := by simp; omega
                  have HE2 : Hid (eqAt f (trnL n r) x y z = false) := Lib.hid (by rw [HE.out]; simp [p2])
                  clear p1 p2
                  go_wp2
                  go_quiet (fail)
                  go_wp2
                  simp only [List.append_eq, List.cons_append, List.nil_append]
                  go_big_quiet (fail)
                  go_wp2
                  go_ret
                  exact ⟨ret_bool (HFN.out (allN_no hlt (allN_no hlty (allN_no hltz HE2.out)))).symm, below_drewN (below_drewN (below_drewN (Below.refl _ _) _) _) _⟩
              · have o1 : ((u1 : Int) != (u3 : Int)) = true := by simp; omega
                have HE2 : Hid (eqAt f (trnL n r) x y z = false) := Lib.hid (by rw [HE.out]; simp [p1])
                clear p1
                go_wp2
                go_quiet (fail)
                go_wp2
                simp only [List.append_eq, List.cons_append, List.nil_append]
                go_big_quiet (fail)
                go_wp2
                go_ret
                exact ⟨ret_bool (HFN.out (allN_no hlt (allN_no hlty (allN_no hltz HE2.out)))).symm, below_drewN (below_drewN (below_drewN (Below.refl _ _) _) _) _⟩
            · obtain rfl : z = n := by omega
              go_wp2
              go_roundw
              case rel => exact ⟨y + 1, by omega, by go_num, Lib.hid (allN_succ hy1.out hz1.out), _, rfl⟩
              case measure => simp [intOf]; omega
        · obtain rfl : y = n := by omega
          go_wp2
          go_roundw
          case rel => exact ⟨x + 1, by omega, by go_num, Lib.hid (allN_succ hx1.out hy1.out), _, rfl⟩
          case measure => simp [intOf]; omega
    · obtain rfl : x = n := by omega
      have HEO : Hid (isSol f (trnL x r) = solF x f r) := Lib.hid (HFY.out hx1.out)
      go_wp2_with fail
      refine (l01Turn_any x _ _ r _ (t2.drewN _) HR.out hn1 hn).mono ?_
      rintro e w3 ⟨a3, c3, vs3, rfl, ho3, hb3⟩
      have hb0 : Below w.heap.size w w3 := below_th (below_drewN (Below.refl _ _) _) hb3
      go_wp2_with fail
      refine (l02Is_any _ _ _ _ _ _ f (trnL x r) _ ((t1.below hb0).alloc _) (ho3.tbl.alloc _) (by omega) (by omega)).mono ?_
      rintro e w4 ⟨rfl, hb4⟩
      go_wp2
      go_ret
      exact ⟨ret_bool HEO.out, below_alth hb0 hb4⟩
end Go.Proofs.YthgafpeblpnolaaGreat
