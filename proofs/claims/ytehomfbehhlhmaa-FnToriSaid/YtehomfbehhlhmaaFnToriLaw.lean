/-
  The walk of the law of torus braids and named braids: it answers true.
  No condition.
-/
import Derived.Test.YtehomfbehhlhmaaDrawN
import Derived.Test.YtehomfbehhlhmaaLaw9
import Derived.Test.YtehomfbehhlhmaaToriL
import Derived.Test.YtehomfbehhlhmaaCompB
namespace Go.Proofs.Ytehomfbehhlhmaa
set_option maxRecDepth 100000
set_option linter.unusedVariables false
set_option linter.unusedSimpArgs false
open Go.RowKit

theorem gcd_step (x y : Nat) : Nat.gcd y (x % y) = Nat.gcd x y := by rw [Nat.gcd_comm x y, Nat.gcd_rec y x, Nat.gcd_comm]
theorem nbF_cases (t : ByteArray) : nbF t = (0, [], 4) ∨ ∃ (s : Nat) (zs : List Int), nbF t = ((s : Int), zs, 0) ∧ isBr s zs = true ∧ zs.length ≤ 30 ∧ s ≤ 6 := by
  rcases nb_data t with h | ⟨s, h, hb⟩
  · exact .inl h
  · have := isBr_let hb
    exact .inr ⟨s, (nbF t).2.1, h, hb, this.2.1, by omega⟩

set_option maxHeartbeats 32000000 in
theorem law_Tori (a : Option Addr) (n c : Nat) (xs : List Int) (w : World) (h : Bts w a n xs) (hn : n ≤ 9223372036854775807) :
    Calls Try.prog 4 #[.slice a n c] w fun e w' => e = .returned (.bool true) ∧ Below w.heap.size w w' := by
  go_enter Try.func4, Try.ntmps4
  go_wp2_with fail
  refine (big_any a n c _ hn).mono ?_
  rintro e w0 ⟨rfl, rfl⟩
  by_cases hbig : 4096 < n
  · have hd : decide (4096 < n) = true := by simpa using hbig
    rw [hd]
    go_wp2
    go_ret
    exact ⟨rfl, Below.refl _ _⟩
  · have hd : decide (4096 < n) = false := by simpa using hbig
    rw [hd]
    clear hd hbig
    go_wp2_with fail
    refine (DrawTorusBraid_ok a n c xs _ h hn).mono ?_
    rintro e w1 ⟨p, q, rfl, hp, hq, hB1⟩
    have hi := fun w => impl_Torus_any p q w
    have hs := fun w => spec_Torus_any p q w
    rcases torF_cases p q with ⟨P, Q, rfl, rfl, hP2, hP6, hQ, hF, hbr, hg⟩ | ⟨k, hk, hF⟩
    · simp only [hF] at hi hs
      have HI := Lib.hid hi; have HS := Lib.hid hs; have HBR := Lib.hid hbr; have HG := Lib.hid hg
      have HL := Lib.hid (torW_length P Q)
      have hn30 : (torW P Q).length ≤ 30 := (isBr_let hbr).2.1
      have hcp : compF P (torW P Q) = (compL P (torW P Q), 0) := by unfold compF; rw [hbr]; simp
      have hC := fun a n c w h1 hm => impl_Comp_any P a n c (torW P Q) w h1 hm ⟨by omega, by omega⟩
      simp only [hcp] at hC
      have HC := Lib.hid hC
      have HGet := Lib.hid (compL_get P (torW P Q))
      have HLen := Lib.hid (compL_len P (torW P Q))
      clear hi hs hF hbr hg hp hq hC hcp
      obtain ⟨ws, HW⟩ : ∃ ws, Hid (torW P Q = ws) := ⟨_, rfl⟩
      rw [HW.out] at HI HS HBR HG hn30 HC HGet HLen
      obtain ⟨L, HCL⟩ : ∃ L, Hid (compL P ws = L) := ⟨_, rfl⟩
      rw [HCL.out] at HG HC HGet HLen
      go_wp2_with fail
      refine (HI.out _).mono ?_
      rintro e w2 ⟨a2, n2, c2, rfl, ho2, hb2⟩
      have hB2 : Below w.heap.size w w2 := below_th hB1 hb2
      have l2 := Loc.new w2 rfl #[.int .i64 P, .slice a2 n2 c2] 24
      go_wp2_with fail
      refine (HS.out _).mono ?_
      rintro e w3 ⟨a3, n3, c3, rfl, ho3, hb3⟩
      have hB3 := below_th (below_al hB2 _) hb3
      have k2 := l2.below hb3 l2.lt
      have L2 := k2.alloc (.cells #[.int .i64 P, .slice a3 n3 c3] 24)
      have k2 := L2.two
      have k3 := (Loc.new w3 rfl #[.int .i64 P, .slice a3 n3 c3] 24).two
      have hn2 : n2 ≤ 30 := by have := ho2.len; omega
      go_wp2_with fail
      refine (braid9_same _ _ _ _ _ _ _ ws _ (((ho2.alloc _).below hb3).row.alloc _) (ho3.row.alloc _) (by omega)).mono ?_
      rintro e w4 ⟨rfl, hb4⟩
      have hB4 := below_th (below_al hB3 _) hb4
      have L4 := L2.below hb4 L2.lt
      have m2 := L4.two
      go_wp2_with fail
      refine (HC.out _ _ _ _ ((((ho2.alloc _).below hb3).row.alloc _).below hb4) (by omega)).mono ?_
      rintro e w5 ⟨a4, n4, c4, rfl, ho4, hb5⟩
      have hB5 := below_th hB4 hb5
      go_wp2
      clear k2 k3 m2 l2
      go_loop [11, 12, 13] (fun x y _ => ∃ X Y : Nat, x = .int .i64 X ∧ y = .int .i64 Y ∧ X ≤ 100 ∧ Y ≤ 100 ∧ Hid (Nat.gcd X Y = Nat.gcd P Q)) (fun _ y _ => (intOf y).toNat)
      case atStart => exact ⟨P, Q, rfl, rfl, by omega, by omega, rfl⟩
      case round =>
        obtain ⟨X, Y, rfl, rfl, hX, hY, HXY⟩ := hrel
        by_cases hY0 : 0 < Y
        · have hlt : X % Y < Y := Nat.mod_lt _ hY0
          go_wp2
          go_round
          case rel => exact ⟨Y, X % Y, rfl, by go_num, hY, by omega, by rw [← HXY.out]; exact gcd_step X Y⟩
          case measure => simp [intOf]; omega
        · obtain rfl : Y = 0 := by omega
          have HXG : Hid (grtL L = (X : Int)) := Lib.hid (by rw [HG.out, ← HXY.out]; simp)
          clear HXY
          have hn4 : n4 ≤ 6 := by have := ho4.len; have := HLen.out; omega
          go_wp2_with fail
          refine (most9_any a4 n4 c4 L _ ho4.row (by omega) (fun x hx => by
            obtain ⟨i, hi, rfl⟩ := List.getElem_of_mem hx
            have := HGet.out i (by have := HLen.out; omega)
            rw [List.getD_eq_getElem?_getD, List.getElem?_eq_getElem hi] at this
            simp at this
            omega)).mono ?_
          rintro e w6 ⟨rfl, rfl⟩
          rw [HXG.out]
          have hbe : ((X : Int) != (X : Int)) = false := by simp
          go_wp2_with fail
          refine (DrawNamedBraid_ok a n c xs _ (h.below hB5) hn).mono ?_
          rintro e v1 ⟨t, rfl, ht, hq1⟩
          have hD1 : Below w.heap.size w v1 := below_th hB5 hq1
          have hi2 := fun w => impl_Nb_l t w (by omega)
          have hs2 := fun w => spec_Nb_l t w (by omega)
          rcases nbF_cases t with hF2 | ⟨S, zs, hF2, hbr2, hz30, hS6⟩
          · simp only [hF2] at hi2 hs2
            have HI2 := Lib.hid hi2; have HS2 := Lib.hid hs2
            clear hi2 hs2 hF2
            go_wp2_with fail
            refine (HI2.out _).mono ?_
            rintro e v2 ⟨a5, n5, c5, rfl, ho5, hq2⟩
            have hD2 := below_th hD1 hq2
            have l5 := Loc.new v2 rfl #[.int .i64 0, .slice a5 n5 c5] 24
            go_wp2_with fail
            refine (HS2.out _).mono ?_
            rintro e v3 ⟨a6, n6, c6, rfl, ho6, hq3⟩
            have hD3 := below_th (below_al hD2 _) hq3
            have k5 := (l5.below hq3 l5.lt)
            have k6 := Loc.new v3 rfl #[.int .i64 0, .slice a6 n6 c6] 24
            replace k5 := (k5.alloc (.cells #[.int .i64 0, .slice a6 n6 c6] 24)).two
            replace k6 := k6.two
            go_wp2_with fail
            refine (braid9_same _ _ _ _ _ _ _ [] _ (((ho5.alloc _).below hq3).row.alloc _) (ho6.row.alloc _) (by have := ho5.len; simp at this; omega)).mono ?_
            rintro e v4 ⟨rfl, hq4⟩
            go_wp2
            go_ret
            exact ⟨rfl, below_th (below_al hD3 _) hq4⟩
          · simp only [hF2] at hi2 hs2
            have HI2 := Lib.hid hi2; have HS2 := Lib.hid hs2; have HB2 := Lib.hid hbr2
            clear hi2 hs2 hF2 hbr2
            go_wp2_with fail
            refine (HI2.out _).mono ?_
            rintro e v2 ⟨a5, n5, c5, rfl, ho5, hq2⟩
            have hD2 := below_th hD1 hq2
            have l5 := Loc.new v2 rfl #[.int .i64 S, .slice a5 n5 c5] 24
            go_wp2_with fail
            refine (HS2.out _).mono ?_
            rintro e v3 ⟨a6, n6, c6, rfl, ho6, hq3⟩
            have hD3 := below_th (below_al hD2 _) hq3
            have k5 := (l5.below hq3 l5.lt)
            have k6 := Loc.new v3 rfl #[.int .i64 S, .slice a6 n6 c6] 24
            have L5 := (k5.alloc (.cells #[.int .i64 S, .slice a6 n6 c6] 24))
            have k5 := L5.two
            replace k6 := k6.two
            have hn5 : n5 ≤ 30 := by have := ho5.len; omega
            go_wp2_with fail
            refine (braid9_same _ _ _ _ _ _ _ zs _ (((ho5.alloc _).below hq3).row.alloc _) (ho6.row.alloc _) (by omega)).mono ?_
            rintro e v4 ⟨rfl, hq4⟩
            have m5 := (L5.below hq4 L5.lt).two
            go_wp2_with fail
            refine (isBraid_any _ _ _ _ zs _ ((((ho5.alloc _).below hq3).row.alloc _).below hq4) (by omega)).mono ?_
            rintro e v5 ⟨rfl, hq5⟩
            rw [HB2.out]
            go_wp2
            go_ret
            exact ⟨rfl, below_th (below_th (below_al hD3 _) hq4) hq5⟩

    · simp only [hF] at hi hs
      have HI := Lib.hid hi; have HS := Lib.hid hs
      have hk1 : (k == k) = true := by simp
      have hk2 : (k != k) = false := by simp
      have hk3 : (k == 0) = false := by rcases hk with rfl | rfl <;> rfl
      have hk4 : ¬ k = 0 := by omega
      clear hi hs hF hp hq
      go_wp2_with fail
      refine (HI.out _).mono ?_
      rintro e w2 ⟨a2, n2, c2, rfl, ho2, hb2⟩
      have hB2 : Below w.heap.size w w2 := below_th hB1 hb2
      have l2 := Loc.new w2 rfl #[.int .i64 0, .slice a2 n2 c2] 24
      go_wp2_with fail
      refine (HS.out _).mono ?_
      rintro e w3 ⟨a3, n3, c3, rfl, ho3, hb3⟩
      have hB3 := below_th (below_al hB2 _) hb3
      have k2 := l2.below hb3 l2.lt
      have L2 := k2.alloc (.cells #[.int .i64 0, .slice a3 n3 c3] 24)
      have k2 := L2.two
      have k3 := (Loc.new w3 rfl #[.int .i64 0, .slice a3 n3 c3] 24).two
      go_wp2_with fail
      refine (braid9_same _ _ _ _ _ _ _ [] _ (((ho2.alloc _).below hb3).row.alloc _) (ho3.row.alloc _) (by have := ho2.len; simp at this; omega)).mono ?_
      rintro e w4 ⟨rfl, hb4⟩
      have hB4 := below_th (below_al hB3 _) hb4
      have L4 := L2.below hb4 L2.lt
      have m2 := L4.two
      go_wp2_with fail
      refine (DrawNamedBraid_ok a n c xs _ (h.below hB4) hn).mono ?_
      rintro e v1 ⟨t, rfl, ht, hq1⟩
      have hD1 : Below w.heap.size w v1 := below_th hB4 hq1
      have hi2 := fun w => impl_Nb_l t w (by omega)
      have hs2 := fun w => spec_Nb_l t w (by omega)
      rcases nbF_cases t with hF2 | ⟨S, zs, hF2, hbr2, hz30, hS6⟩
      · simp only [hF2] at hi2 hs2
        have HI2 := Lib.hid hi2; have HS2 := Lib.hid hs2
        clear hi2 hs2 hF2
        go_wp2_with fail
        refine (HI2.out _).mono ?_
        rintro e v2 ⟨a5, n5, c5, rfl, ho5, hq2⟩
        have hD2 := below_th hD1 hq2
        have l5 := Loc.new v2 rfl #[.int .i64 0, .slice a5 n5 c5] 24
        go_wp2_with fail
        refine (HS2.out _).mono ?_
        rintro e v3 ⟨a6, n6, c6, rfl, ho6, hq3⟩
        have hD3 := below_th (below_al hD2 _) hq3
        have k5 := (l5.below hq3 l5.lt)
        have k6 := Loc.new v3 rfl #[.int .i64 0, .slice a6 n6 c6] 24
        replace k5 := (k5.alloc (.cells #[.int .i64 0, .slice a6 n6 c6] 24)).two
        replace k6 := k6.two
        go_wp2_with fail
        refine (braid9_same _ _ _ _ _ _ _ [] _ (((ho5.alloc _).below hq3).row.alloc _) (ho6.row.alloc _) (by have := ho5.len; simp at this; omega)).mono ?_
        rintro e v4 ⟨rfl, hq4⟩
        go_wp2
        go_ret
        exact ⟨rfl, below_th (below_al hD3 _) hq4⟩
      · simp only [hF2] at hi2 hs2
        have HI2 := Lib.hid hi2; have HS2 := Lib.hid hs2; have HB2 := Lib.hid hbr2
        clear hi2 hs2 hF2 hbr2
        go_wp2_with fail
        refine (HI2.out _).mono ?_
        rintro e v2 ⟨a5, n5, c5, rfl, ho5, hq2⟩
        have hD2 := below_th hD1 hq2
        have l5 := Loc.new v2 rfl #[.int .i64 S, .slice a5 n5 c5] 24
        go_wp2_with fail
        refine (HS2.out _).mono ?_
        rintro e v3 ⟨a6, n6, c6, rfl, ho6, hq3⟩
        have hD3 := below_th (below_al hD2 _) hq3
        have k5 := (l5.below hq3 l5.lt)
        have k6 := Loc.new v3 rfl #[.int .i64 S, .slice a6 n6 c6] 24
        have L5 := (k5.alloc (.cells #[.int .i64 S, .slice a6 n6 c6] 24))
        have k5 := L5.two
        replace k6 := k6.two
        have hn5 : n5 ≤ 30 := by have := ho5.len; omega
        go_wp2_with fail
        refine (braid9_same _ _ _ _ _ _ _ zs _ (((ho5.alloc _).below hq3).row.alloc _) (ho6.row.alloc _) (by omega)).mono ?_
        rintro e v4 ⟨rfl, hq4⟩
        have m5 := (L5.below hq4 L5.lt).two
        go_wp2_with fail
        refine (isBraid_any _ _ _ _ zs _ ((((ho5.alloc _).below hq3).row.alloc _).below hq4) (by omega)).mono ?_
        rintro e v5 ⟨rfl, hq5⟩
        rw [HB2.out]
        go_wp2
        go_ret
        exact ⟨rfl, below_th (below_th (below_al hD3 _) hq4) hq5⟩

end Go.Proofs.Ytehomfbehhlhmaa
