/-
  The program's moves of letters between two permutation braids.
  No condition but bounds.
-/
import Derived.Test.YtdkpalllfekiiaaGreatFac
import Derived.Deep.LoopGhost
namespace Go.Proofs.YtdkpalllfekiiaaGreat
set_option maxRecDepth 100000
set_option linter.unusedVariables false
set_option linter.unusedSimpArgs false
open Go.RowKit

set_option maxHeartbeats 1000000 in
theorem swapOf_any (n k : Nat) (w : World) (hn : n ≤ 6) (hk : k + 1 < n) :
    Calls Tryz.prog 57 #[.int .i64 n, .int .i64 k] w fun e w' => ∃ a c, e = .returned (.slice a n c) ∧ Own w' w.heap.size a n c (toL n (Pm.s k)) ∧ Below w.heap.size w w' := by
  have HS : Hid (swp (unitL n) k = toL n (Pm.s k)) := Lib.hid (by rw [unit_toL, swp_toL hk, Pm.m_one])
  go_enter Tryz.func57, Tryz.ntmps57
  go_wp2_with fail
  refine (identity_any n _ (by omega)).mono ?_
  rintro e w1 ⟨ap, cp, rfl, ho, hb1⟩
  obtain ⟨gp, op, rfl, _⟩ := ho.row.at k (by omega)
  obtain ⟨rfl, hc, hf⟩ := ho.cells
  have hcj := hc k (by omega)
  have hcj1 := hc (k + 1) (by omega)
  have hfj := hf k
  have hfj1 := hf (k + 1)
  have i1 : (0 : Int) ≤ (k : Int) := by omega
  have i2 : (k : Int) < (n : Int) := by omega
  have hwj : IntKind.i64.wrap ((k : Int) + 1) = ((k + 1 : Nat) : Int) := (IntWalk.i64_in _ (by omega)).trans (by simp)
  clear hc hf
  obtain ⟨X, hX⟩ : ∃ X, X = (unitL n).getD k 0 := ⟨_, rfl⟩
  obtain ⟨Y, hY⟩ : ∃ Y, Y = (unitL n).getD (k + 1) 0 := ⟨_, rfl⟩
  have HW : Hid (swp (unitL n) k = ((unitL n).set k Y).set (k + 1) X) := Lib.hid (by rw [hX, hY]; rfl)
  rw [← hX] at hcj
  rw [← hY] at hcj1
  clear hX hY
  go_wp2
  go_region
  all_goals go_wp2
  all_goals go_ret
  all_goals
    have hgp : w.heap.size ≤ gp := ho.lt.1
    refine ⟨_, _, rfl, ?_, below_drewN (below_setne (below_setne (a := ⟨gp, k, none⟩) hb1 hgp _) (a := ⟨gp, k + 1, none⟩) hgp _) 1⟩
    rw [← HS.out, HW.out]
    exact ((ho.set k Y).set (k + 1) X)

set_option maxHeartbeats 1000000 in
theorem halfTwist_any (n : Nat) (w : World) (hn : n ≤ 6) :
    Calls Tryz.prog 56 #[.int .i64 n] w fun e w' => ∃ a c, e = .returned (.slice a n c) ∧ Own w' w.heap.size a n c (toL n (Pm.tw n)) ∧ Below w.heap.size w w' := by
  have HS := Lib.hid (rev_toL n)
  go_enter Tryz.func56, Tryz.ntmps56
  go_wp2_with fail
  refine (identity_any n _ (by omega)).mono ?_
  rintro e w1 ⟨ap, cp, rfl, ho, hb1⟩
  go_wp2_with fail
  refine (reverse_any ap n cp w.heap.size (unitL n) w1 ho).mono ?_
  rintro e w2 ⟨rfl, ho2, ht2⟩
  have hm2 : Marked (fun g => ap = some ⟨g, 0, none⟩) w1 w2 := Marked.touch ht2 fun g h => h
  have hb2 : Below w.heap.size w w2 := Marked.below hb1 hm2 hb1.size (fun g h => ho.lo g h)
  go_wp2
  go_ret
  exact ⟨_, _, rfl, by rw [← HS.out]; exact ho2, hb2⟩

/-- the same slice, or a new one -/
def Nw (w : World) (a a' : Option Addr) : Prop := a' = a ∨ ∀ g, a' = some ⟨g, 0, none⟩ → w.heap.size ≤ g
theorem st_lt {n : Nat} {p : Pm} {k : Nat} (h : Fx n p) : (toL n p).length = n := toL_len n p
/-- what moving letters leaves -/
def SldR (n : Nat) (a1 a2 : Option Addr) (c1 c2 : Nat) (p q : Pm) (w : World) (e : Ending) (w' : World) : Prop :=
  ∃ (b1 b2 : Option Addr) (d1 d2 : Nat) (p' q' : Pm) (b : Bool), e = .returned (.tuple #[.slice b1 n d1, .slice b2 n d2, .bool b]) ∧ FRow n w' (b1, n, d1) p' ∧ FRow n w' (b2, n, d2) q' ∧ Star [p, q] [p', q'] ∧ (∀ k, St q' k → En p' k) ∧
    (b = false → b1 = a1 ∧ d1 = c1 ∧ b2 = a2 ∧ d2 = c2 ∧ p' = p ∧ q' = q) ∧ (b = true → val n [p', q'] < val n [p, q]) ∧ Nw w a1 b1 ∧ Nw w a2 b2 ∧ Below w.heap.size w w'

set_option maxHeartbeats 4000000 in
theorem slide_any (n : Nat) (a1 a2 : Option Addr) (c1 c2 : Nat) (p q : Pm) (w : World) (hn2 : 2 ≤ n) (hn : n ≤ 6) (h1 : FRow n w (a1, n, c1) p) (h2 : FRow n w (a2, n, c2) q) :
    Calls Tryz.prog 60 #[.slice a1 n c1, .slice a2 n c2] w (SldR n a1 a2 c1 c2 p q w) := by
  go_enter Tryz.func60, Tryz.ntmps60
  have hwn : IntKind.i64.wrap ((n : Int) - 1) = ((n - 1 : Nat) : Int) := (IntWalk.i64_in _ (by omega)).trans (by omega)
  go_wp2
  go_loopg [0, 1, 7, 8, 9, 10] (val n [p, q] * (n + 1) + n) (fun gm s0 s1 s7 s8 _ _ wr => ∃ (b1 b2 : Option Addr) (d1 d2 : Nat) (P Q : Pm) (b : Bool) (k : Nat), s0 = .slice b1 n d1 ∧ s1 = .slice b2 n d2 ∧ s7 = .bool b ∧ s8 = .int .i64 k ∧ k + 1 ≤ n ∧ FRow n wr (b1, n, d1) P ∧ FRow n wr (b2, n, d2) Q ∧ Hid (Star [p, q] [P, Q] ∧ (∀ i, i < k → St Q i → En P i) ∧ (b = false → b1 = a1 ∧ d1 = c1 ∧ b2 = a2 ∧ d2 = c2 ∧ P = p ∧ Q = q) ∧ (b = true → val n [P, Q] < val n [p, q])) ∧ Hid (Nw w a1 b1 ∧ Nw w a2 b2) ∧ Below w.heap.size w wr ∧ gm = val n [P, Q] * (n + 1) + (n - k))
  case atStart => exact ⟨a1, a2, c1, c2, p, q, false, 0, rfl, rfl, rfl, rfl, by omega, h1, h2, Lib.hid ⟨.refl _, fun i h => absurd h (by omega), fun _ => ⟨rfl, rfl, rfl, rfl, rfl, rfl⟩, fun h => by cases h⟩, Lib.hid ⟨.inl rfl, .inl rfl⟩, Below.refl _ _, by omega⟩
  case round =>
    obtain ⟨b1, b2, d1, d2, P, Q, b, k, rfl, rfl, rfl, rfl, hk, hP, hQ, HS, HNW, hq, hgm⟩ := hrel
    by_cases hlt : k + 1 < n
    · have i0 : (k : Int) < ((n - 1 : Nat) : Int) := by omega
      have hPm := toL_mem hP.fx
      have HPb := Lib.hid (back_toL hP.fx)
      go_wp2_with fail
      refine (inverse_any b1 n d1 (toL n P) _ hP.row (by omega) hPm).mono ?_
      rintro e w1 ⟨a3, c3, rfl, ho3, hb3⟩
      rw [HPb.out] at ho3
      have hP1 := hP.below hb3
      have hQ1 := hQ.below hb3
      have hq1 := below_th hq hb3
      obtain ⟨g2, o2, rfl, x1⟩ := hQ1.row.at k (by omega)
      obtain ⟨g2', o2', e2, x2⟩ := hQ1.row.at (k + 1) hlt
      cases e2
      obtain ⟨g3, o3, rfl, x3⟩ := ho3.row.at k (by omega)
      obtain ⟨g3', o3', e3, x4⟩ := ho3.row.at (k + 1) hlt
      cases e3
      rw [toL_get (by omega)] at x1 x3
      rw [toL_get hlt] at x2 x4
      have i1 : (0 : Int) ≤ (k : Int) := by omega
      have i2 : (k : Int) < (n : Int) := by omega
      have i3 : ((k + 1 : Nat) : Int) < (n : Int) := by omega
      have hwk : IntKind.i64.wrap ((k : Int) + 1) = ((k + 1 : Nat) : Int) := (IntWalk.i64_in _ (by omega)).trans (by simp)
      obtain ⟨u, HU⟩ : ∃ u, Hid (Q.f k = u) := ⟨_, rfl⟩
      obtain ⟨v, HV⟩ : ∃ v, Hid (Q.f (k + 1) = v) := ⟨_, rfl⟩
      obtain ⟨s, HSS⟩ : ∃ s, Hid (P.iv.f k = s) := ⟨_, rfl⟩
      obtain ⟨t, HT⟩ : ∃ t, Hid (P.iv.f (k + 1) = t) := ⟨_, rfl⟩
      rw [HU.out] at x1
      rw [HV.out] at x2
      rw [HSS.out] at x3
      rw [HT.out] at x4
      have HST : Hid (St Q k ↔ v < u) := Lib.hid (by rw [← HU.out, ← HV.out]; exact Iff.rfl)
      have HEN : Hid (En P k ↔ t < s) := Lib.hid (by rw [← HSS.out, ← HT.out]; exact Iff.rfl)
      have hstay : ∀ m : Nat, ¬ (v < u ∧ s < t) → ∃ (b1_1 b2_1 : Option Addr) (d1_1 d2_1 : Nat) (P_1 Q_1 : Pm) (b_1 : Bool) (k_1 : Nat), Value.slice b1 n d1 = .slice b1_1 n d1_1 ∧ Value.slice (some ⟨g2, o2, none⟩) n d2 = .slice b2_1 n d2_1 ∧ Value.bool b = .bool b_1 ∧ Value.int .i64 ((k + 1 : Nat) : Int) = .int .i64 k_1 ∧ k_1 + 1 ≤ n ∧ FRow n (w1.drewN m) (b1_1, n, d1_1) P_1 ∧ FRow n (w1.drewN m) (b2_1, n, d2_1) Q_1 ∧ Hid (Star [p, q] [P_1, Q_1] ∧ (∀ i, i < k_1 → St Q_1 i → En P_1 i) ∧ (b_1 = false → b1_1 = a1 ∧ d1_1 = c1 ∧ b2_1 = a2 ∧ d2_1 = c2 ∧ P_1 = p ∧ Q_1 = q) ∧ (b_1 = true → val n [P_1, Q_1] < val n [p, q])) ∧ Hid (Nw w a1 b1_1 ∧ Nw w a2 b2_1) ∧ Below w.heap.size w (w1.drewN m) ∧ val n [P, Q] * (n + 1) + (n - (k + 1)) = val n [P_1, Q_1] * (n + 1) + (n - k_1) := fun m hne =>
        ⟨b1, _, d1, d2, P, Q, b, k + 1, rfl, rfl, rfl, rfl, by omega, hP1.below (below_drewN (Below.refl _ _) m), hQ1.below (below_drewN (Below.refl _ _) m), Lib.hid ⟨HS.out.1, fun i hi hs => by
          by_cases e : i = k
          · subst e
            have hvu := HST.out.1 hs
            have : ¬ (P.iv.f i = P.iv.f (i + 1)) := fun e => by
              have := congrArg P.iv.g e; rw [P.iv.gf, P.iv.gf] at this; omega
            rw [HSS.out, HT.out] at this
            exact HEN.out.2 (by omega)
          · exact HS.out.2.1 i (by omega) hs, HS.out.2.2⟩, HNW, below_drewN hq1 m, rfl⟩
      have HSTAY := Lib.hid hstay
      clear hstay
      by_cases e1 : v < u
      · have f1 : decide ((v : Int) < (u : Int)) = true := by simp; omega
        by_cases e2 : s < t
        · have f2 : decide ((s : Int) < (t : Int)) = true := by simp; omega
          have hSt := HST.out.2 e1
          have hEn : ¬ En P k := fun h => by have := HEN.out.1 h; omega
          have hfk := Fx.s (n := n) hlt
          have HPm := Lib.hid (toL_mem hP.fx)
          have HKm := Lib.hid (toL_mem hfk)
          have HA1 := Lib.hid (th_toL (q := Pm.s k) hP.fx)
          have HA2 := Lib.hid (th_toL (q := Q) hfk)
          have HFA := Lib.hid (hP.fx.m hfk)
          have HFB := Lib.hid (hfk.m hQ.fx)
          have HMV : Hid (Step [P, Q] [P.m (Pm.s k), (Pm.s k).m Q]) := Lib.hid (Step.mv [] [] P Q k hSt hEn)
          have HVV : Hid (val n [P.m (Pm.s k), (Pm.s k).m Q] < val n [P, Q]) := Lib.hid (val_step (fun r hr => by
            simp at hr; rcases hr with rfl | rfl
            · exact hP.fx
            · exact hQ.fx) HMV.out)
          have HS2 : Hid (Star [p, q] [P.m (Pm.s k), (Pm.s k).m Q]) := Lib.hid (HS.out.1.trans (.one HMV.out))
          have HLE : Hid (val n [P, Q] ≤ val n [p, q]) := Lib.hid (by
            cases b with
            | true => exact Nat.le_of_lt (HS.out.2.2.2 rfl)
            | false => obtain ⟨_, _, _, _, rfl, rfl⟩ := HS.out.2.2.1 rfl; exact Nat.le_refl _)
          clear hSt hEn hfk
          go_wp2
          go_quiet (fail)
          go_wp2_with fail
          refine (swapOf_any n k _ hn hlt).mono ?_
          rintro e w2 ⟨a4, c4, rfl, ho4, hb4⟩
          have hb4' : Below w1.heap.size w1 w2 := below_th (below_drewN (Below.refl _ _) _) hb4
          have hP2 := hP1.below hb4'
          have hQ2 := hQ1.below hb4'
          have hq2 := below_th hq1 hb4'
          go_wp2_with fail
          refine (then_any b1 a4 n n d1 c4 (toL n P) (toL n (Pm.s k)) w2 hP2.row ho4.row (by omega) HPm.out).mono ?_
          rintro e w3 ⟨a5, c5, rfl, ho5, hb5⟩
          rw [HA1.out] at ho5
          go_wp2_with fail
          refine (then_any a4 _ n n c4 d2 (toL n (Pm.s k)) (toL n Q) w3 (ho4.below hb5).row (hQ2.below hb5).row (by omega) HKm.out).mono ?_
          rintro e w4 ⟨a6, c6, rfl, ho6, hb6⟩
          rw [HA2.out] at ho6
          have hz2 := hq2.size
          have hz5 := hb5.size
          go_wp2
          obtain ⟨VV, HVX⟩ : ∃ VV, Hid (val n [P.m (Pm.s k), (Pm.s k).m Q] = VV) := ⟨_, rfl⟩
          go_roundg (VV * (n + 1) + n)
          case measure =>
            have x1 := HVV.out
            rw [HVX.out] at x1
            have x2 := Nat.mul_le_mul_right (n + 1) (show VV + 1 ≤ val n [P, Q] from x1)
            rw [Nat.succ_mul] at x2
            omega
          case rel =>
            refine ⟨a5, a6, c5, c6, P.m (Pm.s k), (Pm.s k).m Q, true, 0, rfl, rfl, rfl, rfl, by omega, ⟨(ho5.below hb6).mono (Nat.zero_le _), rfl, HFA.out⟩, ⟨ho6.mono (Nat.zero_le _), rfl, HFB.out⟩, Lib.hid ⟨HS2.out, fun i h => absurd h (by omega), fun h => by (cases h), fun _ => Nat.lt_of_lt_of_le HVV.out HLE.out⟩, Lib.hid ⟨.inr fun g hg => ?_, .inr fun g hg => ?_⟩, below_th (below_th hq2 hb5) hb6, by rw [HVX.out]; omega⟩
            · have := ho5.lo g hg; omega
            · have := ho6.lo g hg; omega
        · have f2 : decide ((s : Int) < (t : Int)) = false := by simp; omega
          go_wp2
          go_quiet (fail)
          go_wp2
          go_roundg (val n [P, Q] * (n + 1) + (n - (k + 1)))
          case measure => omega
          case rel => exact HSTAY.out _ (fun h => e2 h.2)
      · have f1 : decide ((v : Int) < (u : Int)) = false := by simp; omega
        go_wp2
        go_quiet (fail)
        go_wp2
        go_roundg (val n [P, Q] * (n + 1) + (n - (k + 1)))
        case measure => omega
        case rel => exact HSTAY.out _ (fun h => e1 h.1)
    · obtain rfl : n = k + 1 := by omega
      have i0 : ¬ (k : Int) < ((k + 1 - 1 : Nat) : Int) := by omega
      go_wp2
      go_ret3
      exact ⟨b1, b2, d1, d2, P, Q, b, rfl, hP, hQ, HS.out.1, fun i hs => HS.out.2.1 i (by have := hQ.fx.st hs; omega) hs, HS.out.2.2.1, HS.out.2.2.2, HNW.out.1, HNW.out.2, hq⟩
end Go.Proofs.YtdkpalllfekiiaaGreat
