/-
  The walk of the law of closures: it answers true.
  No condition.
-/
import Derived.Test.YtehomfbehhlhmaaCloC
import Derived.Test.YtehomfbehhlhmaaSumB
import Derived.Test.YtehomfbehhlhmaaLnkI
import Derived.Test.YtehomfbehhlhmaaLnkS
import Derived.Test.YtehomfbehhlhmaaMirror
import Derived.Test.YtehomfbehhlhmaaReverseB
import Derived.Test.YtehomfbehhlhmaaLaw9
namespace Go.Proofs.Ytehomfbehhlhmaa
set_option maxRecDepth 100000
set_option linter.unusedVariables false
set_option linter.unusedSimpArgs false
open Go.RowKit

theorem Bts.alloc {w : World} {a : Option Addr} {n : Nat} {xs : List Int} (h : Bts w a n xs) (o : Obj) : Bts (w.alloc o) a n xs := h.below (below_al (Below.refl _ _) _)
set_option maxHeartbeats 64000000 in
theorem law_Clos (a : Option Addr) (n c : Nat) (xs : List Int) (w : World) (h : Bts w a n xs) (hn : n ≤ 9223372036854775807) :
    Calls Try.prog 8 #[.slice a n c] w fun e w' => e = .returned (.bool true) ∧ Below w.heap.size w w' := by
  have hB : Below w.heap.size w w := Below.refl _ _
  go_enter Try.func8, Try.ntmps8
  go_wp2_with fail
  refine (big_any a n c _ hn).mono ?_
  rintro e w0 ⟨rfl, rfl⟩
  by_cases hbig : 4096 < n
  · have hd : decide (4096 < n) = true := by simpa using hbig
    rw [hd]
    go_wp2
    go_ret
    exact ⟨rfl, Below.refl _ _⟩
  have hd : decide (4096 < n) = false := by simpa using hbig
  rw [hd]
  clear hd hbig
  go_wp2_with fail
  refine (DrawLinkingNumbers_ok a n c xs _ (h.below hB) hn).mono ?_
  rintro e w1 ⟨S, a3, n3, c3, ys, rfl, hS1, hS2, hn3, hsm1, ho3, hbw1⟩
  replace hB := below_th hB hbw1
  have hI := sml_i64 hsm1
  have hli := fun a n c w h1 hm => impl_Lnk_l S a n c ys w ⟨by omega, by omega⟩ h1 hm hI
  have hls := fun a n c w h1 hm => spec_Lnk_l S a n c ys w ⟨by omega, by omega⟩ h1 hm hI
  have hcm := fun a n c w h1 hm => impl_Comp_l S a n c ys w ⟨by omega, by omega⟩ h1 hm hI
  clear hI
  cases hbr : isBr S ys with
  | false =>
    have hF : lnkF S ys = ([], 1) := by unfold lnkF; rw [hbr]; rfl
    have hFc : compF S ys = ([], 1) := by unfold compF; rw [hbr]; rfl
    simp only [hF] at hli hls
    simp only [hFc] at hcm
    have HLI := Lib.hid hli; have HLS := Lib.hid hls; have HCM := Lib.hid hcm
    clear hli hls hcm hF hFc hbr
    have m3 := (Loc.new w1 rfl #[.int .i64 S, .slice a3 n3 c3] 24).two
    go_wp2_with fail
    refine (HLI.out _ _ _ _ (ho3.alloc (.cells #[.int .i64 S, .slice a3 n3 c3] 24)).row (by omega)).mono ?_
    rintro e w2 ⟨a4, n4, c4, vs4, rfl, ho4, hbw2⟩
    clear m3
    have hL3 := (Loc.new w1 rfl #[.int .i64 S, .slice a3 n3 c3] 24).below hbw2 (Loc.new w1 rfl #[.int .i64 S, .slice a3 n3 c3] 24).lt
    have l3 := hL3.two
    replace ho3 := (ho3.alloc (.cells #[.int .i64 S, .slice a3 n3 c3] 24)).below hbw2
    replace hB := below_th (below_al hB (.cells #[.int .i64 S, .slice a3 n3 c3] 24)) hbw2
    go_wp2_with fail
    refine (HLS.out _ _ _ _ ho3.row (by omega)).mono ?_
    rintro e w3 ⟨a6, n6, c6, vs6, rfl, ho6, hbw3⟩
    replace hL3 := hL3.below hbw3 hL3.lt
    replace l3 := hL3.two
    replace ho3 := ho3.below hbw3
    replace ho4 := ho4.below hbw3
    replace hB := below_th hB hbw3
    obtain rfl : n4 = 0 := by have := ho4.tbl.len; simpa using this
    go_wp2_with fail
    refine (same9_same _ _ _ _ _ _ [] _ ho4.tbl ho6.tbl (by omega)).mono ?_
    rintro e w4 ⟨rfl, hbw4⟩
    replace hL3 := hL3.below hbw4 hL3.lt
    replace l3 := hL3.two
    replace ho3 := ho3.below hbw4
    replace ho4 := ho4.below hbw4
    replace ho6 := ho6.below hbw4
    replace hB := below_th hB hbw4
    go_wp2_with fail
    refine (HCM.out _ _ _ _ ho3.row (by omega)).mono ?_
    rintro e w5 ⟨a8, n8, c8, rfl, ho8, hbw5⟩
    replace hL3 := hL3.below hbw5 hL3.lt
    replace l3 := hL3.two
    replace ho3 := ho3.below hbw5
    replace ho4 := ho4.below hbw5
    replace ho6 := ho6.below hbw5
    replace hB := below_th hB hbw5
    obtain rfl : n8 = 0 := by have := ho8.len; simpa using this
    go_wp2
    go_ret
    exact ⟨rfl, hB⟩
  | true =>
    obtain ⟨P, N, L, H, rfl, hP2, hP6, hNP, hy30, hF, hFc, hLl, hLg, hbL, hH, hsym, hsum, hbn, hFn⟩ := lnk_facts S ys hbr
    have hxb := br_i64 hbn
    have hln := fun a n c w h1 hm => impl_Lnk_l P a n c (negL ys) w hxb.2 h1 hm hxb.1
    have hbs := fun a n c w h1 hm => impl_Sum_ok P a n c ys w h1 hm hbr
    have hmi := fun a n c w h1 => impl_Mirror_ok P a n c ys w h1 hbr
    have hre := fun a n c w h1 hm => impl_Reverse_ok P a n c ys w h1 hm ⟨by omega, by omega⟩ hbr
    have hbv : isBr P ys.reverse = true := by
      have hl := isBr_let hbr
      exact isBr_mk hl.1 (by simpa using hl.2.1) fun x hx => hl.2.2 x (List.mem_reverse.1 hx)
    have hre2 := fun a n c w h1 hm => impl_Reverse_ok P a n c ys.reverse w h1 hm ⟨by omega, by omega⟩ hbv
    simp only [List.reverse_reverse] at hre2
    simp only [hF] at hli hls
    simp only [hFn] at hln
    simp only [hFc] at hcm
    have HLI := Lib.hid hli; have HLS := Lib.hid hls; have HCM := Lib.hid hcm; have HLN := Lib.hid hln; have HBS := Lib.hid hbs; have HMI := Lib.hid hmi; have HRE := Lib.hid hre; have HRE2 := Lib.hid hre2
    have HLG := Lib.hid hLg; have HSYM := Lib.hid hsym; have HSUM := Lib.hid hsum; have HH := Lib.hid hH; have HLL := Lib.hid hLl
    clear hli hls hcm hln hbs hmi hre hre2 hF hFc hFn hbr hbn hbv hxb hLg hsym hsum hH hLl
    have m3 := (Loc.new w1 rfl #[.int .i64 P, .slice a3 n3 c3] 24).two
    go_wp2_with fail
    refine (HLI.out _ _ _ _ (ho3.alloc (.cells #[.int .i64 P, .slice a3 n3 c3] 24)).row (by omega)).mono ?_
    rintro e w2 ⟨a4, n4, c4, vs4, rfl, ho4, hbw2⟩
    clear m3
    have hL3 := (Loc.new w1 rfl #[.int .i64 P, .slice a3 n3 c3] 24).below hbw2 (Loc.new w1 rfl #[.int .i64 P, .slice a3 n3 c3] 24).lt
    have l3 := hL3.two
    replace ho3 := (ho3.alloc (.cells #[.int .i64 P, .slice a3 n3 c3] 24)).below hbw2
    replace hB := below_th (below_al hB (.cells #[.int .i64 P, .slice a3 n3 c3] 24)) hbw2
    have e4 : n4 = N := by have := ho4.tbl.len; rw [tabF_len] at this; exact this
    subst e4
    go_wp2_with fail
    refine (HLS.out _ _ _ _ ho3.row (by omega)).mono ?_
    rintro e w3 ⟨a6, n6, c6, vs6, rfl, ho6, hbw3⟩
    replace hL3 := hL3.below hbw3 hL3.lt
    replace l3 := hL3.two
    replace ho3 := ho3.below hbw3
    replace ho4 := ho4.below hbw3
    replace hB := below_th hB hbw3
    go_wp2_with fail
    refine (same9_same _ _ _ _ _ _ (tabF n4 H) _ ho4.tbl ho6.tbl (by omega)).mono ?_
    rintro e w4 ⟨rfl, hbw4⟩
    replace hL3 := hL3.below hbw4 hL3.lt
    replace l3 := hL3.two
    replace ho3 := ho3.below hbw4
    replace ho4 := ho4.below hbw4
    replace ho6 := ho6.below hbw4
    replace hB := below_th hB hbw4
    go_wp2_with fail
    refine (HCM.out _ _ _ _ ho3.row (by omega)).mono ?_
    rintro e w5 ⟨a8, n8, c8, rfl, ho8, hbw5⟩
    replace hL3 := hL3.below hbw5 hL3.lt
    replace l3 := hL3.two
    replace ho3 := ho3.below hbw5
    replace ho4 := ho4.below hbw5
    replace hB := below_th hB hbw5
    have e8 : n8 = P := by have := ho8.len; have := HLL.out; omega
    subst e8
    go_wp2_with fail
    refine (HBS.out _ _ _ _ ho3.row (by omega)).mono ?_
    rintro e w6 ⟨rfl, hbw6⟩
    replace hL3 := hL3.below hbw6 hL3.lt
    replace l3 := hL3.two
    replace ho3 := ho3.below hbw6
    replace ho4 := ho4.below hbw6
    replace ho8 := ho8.below hbw6
    replace hB := below_th hB hbw6
    go_wp2_with fail
    refine (most9_any a8 n8 c8 L _ ho8.row (by omega) hbL).mono ?_
    rintro e ww ⟨rfl, hww⟩
    subst hww
    rw [HLG.out]
    have r1 : ((n4 : Int) != (n4 : Int)) = false := by simp
    have r2 : ((n8 : Int) != (n8 : Int)) = false := by simp
    go_wp2
    go_loopw [13, 14, 15] (fun m x _ wr => ∃ i : Nat, i ≤ n4 ∧ x = .int .i64 i ∧ m = .int .i64 (sumI i fun x => sumI n4 (H x)) ∧ Hid (∃ k, wr = w6.drewN k)) (fun _ x _ _ => n4 - (intOf x).toNat)
    case atStart => exact ⟨0, Nat.zero_le _, rfl, rfl, ⟨0, rfl⟩⟩
    case round =>
      obtain ⟨i, hi, rfl, hm, HW⟩ := hrel
      obtain ⟨k0, hk0⟩ := HW.out
      have hbr : Below w6.heap.size w6 wr := by rw [hk0]; exact below_drewN (Below.refl _ _) k0
      clear hk0
      by_cases hlt : i < n4
      · obtain ⟨b, off, ai, ci, rfl, g1, hrow⟩ := tblF_at (ho4.tbl.below hbr) i hlt
        subst hm
        clear hrow
        go_wp2
        go_loopw [13, 15] (fun m y wr => ∃ j : Nat, j ≤ n4 ∧ y = .int .i64 j ∧ m = .int .i64 ((sumI i fun x => sumI n4 (H x)) + sumI j (H i)) ∧ Hid (∃ k, wr = w6.drewN k)) (fun _ y _ => n4 - (intOf y).toNat)
        case atStart => exact ⟨0, Nat.zero_le _, rfl, by rw [show sumI 0 (H i) = 0 from rfl, Int.add_zero], HW.out⟩
        case round =>
          obtain ⟨j, hj, rfl, hm, HW2⟩ := hrel
          obtain ⟨k1, hk1⟩ := HW2.out
          have hbr2 : Below w6.heap.size w6 wr := by rw [hk1]; exact below_drewN (Below.refl _ _) k1
          clear hk1 g1
          obtain ⟨M, HM⟩ : ∃ M, Hid ((sumI i fun x => sumI n4 (H x)) + sumI j (H i) = M) := ⟨_, rfl⟩
          have hMb := psum_bd (H := H) (show n4 ≤ 6 by omega) hi hj HH.out
          rw [HM.out] at hm hMb
          subst hm
          obtain ⟨hM1, hM2⟩ := hMb
          by_cases hlt2 : j < n4
          · obtain ⟨b1, off1, ai1, ci1, e1, g1, hrow1⟩ := tblF_at (ho4.tbl.below hbr2) i hlt
            cases e1
            obtain ⟨b2, o2, rfl, g2⟩ := hrow1 j hlt2
            have hV := HH.out i j
            obtain ⟨V, HV⟩ : ∃ V, Hid (H i j = V) := ⟨_, rfl⟩
            rw [HV.out] at g2 hV
            obtain ⟨hV1, hV2⟩ := hV
            have hne : (V != V) = false := by simp
            have i1 : (0 : Int) ≤ (i : Int) := by omega
            have i2 : (i : Int) < (n4 : Int) := by omega
            have i3 : (0 : Int) ≤ (j : Int) := by omega
            have i4 : (j : Int) < (n4 : Int) := by omega
            clear hrow1
            by_cases hij : i < j
            · obtain ⟨b3, off3, aj, cj, e3, g3, hrow3⟩ := tblF_at (ho4.tbl.below hbr2) j hlt2
              cases e3
              obtain ⟨b4, o4, rfl, g4⟩ := hrow3 i hlt
              rw [HSYM.out j i, HV.out] at g4
              clear hrow3
              have i5 : (i : Int) < (j : Int) := by omega
              go_wp2
              go_quiet (fail)
              go_wp2
              go_roundw
              case rel =>
                refine ⟨j + 1, by omega, by go_num, ?_, ?_⟩
                · rw [show sumI (j + 1) (H i) = sumI j (H i) + H i j from rfl, ← Int.add_assoc, HM.out, HV.out]
                · obtain ⟨k, hk⟩ := HW2.out
                  exact ⟨k + nq, by rw [hk, World.drewN_drewN]⟩
              case measure => simp [intOf]; omega
            · have i5 : ¬ (i : Int) < (j : Int) := by omega
              have i6 : decide ((i : Int) < (j : Int)) = false := by simpa using hij
              have i7 : decide (i < j) = false := by simpa using hij
              go_wp2
              go_quiet (fail)
              go_wp2
              go_roundw
              case rel =>
                refine ⟨j + 1, by omega, by go_num, ?_, ?_⟩
                · rw [show sumI (j + 1) (H i) = sumI j (H i) + H i j from rfl, ← Int.add_assoc, HM.out, HV.out]
                · obtain ⟨k, hk⟩ := HW2.out
                  exact ⟨k + nq, by rw [hk, World.drewN_drewN]⟩
              case measure => simp [intOf]; omega
          · obtain rfl : j = n4 := by omega
            go_wp2
            go_roundw
            case rel => exact ⟨i + 1, by omega, by go_num, by rw [← HM.out]; rfl, HW2.out⟩
            case measure => simp [intOf]; omega
      · obtain rfl : n4 = i := by omega
        rw [HSUM.out] at hm
        subst hm
        replace hL3 := hL3.below hbr hL3.lt
        replace l3 := hL3.two
        replace ho3 := ho3.below hbr
        replace ho4 := ho4.below hbr
        replace ho8 := ho8.below hbr
        replace hB := below_th hB hbr
        go_wp2_with fail
        refine (HMI.out _ _ _ _ ho3.row).mono ?_
        rintro e w7 ⟨a16, n16, c16, rfl, ho16, hbw7⟩
        replace hL3 := hL3.below hbw7 hL3.lt
        replace l3 := hL3.two
        replace ho3 := ho3.below hbw7
        replace ho4 := ho4.below hbw7
        replace ho8 := ho8.below hbw7
        replace hB := below_th hB hbw7
        have m3 := (hL3.alloc (.cells #[.int .i64 n8, .slice a16 n16 c16] 24)).two
        have m16 := (Loc.new w7 rfl #[.int .i64 n8, .slice a16 n16 c16] 24).two
        go_wp2_with fail
        refine (HLN.out _ _ _ _ (ho16.alloc (.cells #[.int .i64 n8, .slice a16 n16 c16] 24)).row (by have := ho16.len; have := negL_len ys; omega)).mono ?_
        rintro e w8 ⟨a18, n18, c18, vs18, rfl, ho18, hbw8⟩
        clear m3 m16
        replace hL3 := (hL3.alloc (.cells #[.int .i64 n8, .slice a16 n16 c16] 24)).below hbw8 (hL3.alloc (.cells #[.int .i64 n8, .slice a16 n16 c16] 24)).lt
        replace l3 := hL3.two
        have hL16 := (Loc.new w7 rfl #[.int .i64 n8, .slice a16 n16 c16] 24).below hbw8 (Loc.new w7 rfl #[.int .i64 n8, .slice a16 n16 c16] 24).lt
        have l16 := hL16.two
        replace ho3 := (ho3.alloc (.cells #[.int .i64 n8, .slice a16 n16 c16] 24)).below hbw8
        replace ho4 := (ho4.alloc (.cells #[.int .i64 n8, .slice a16 n16 c16] 24)).below hbw8
        replace ho8 := (ho8.alloc (.cells #[.int .i64 n8, .slice a16 n16 c16] 24)).below hbw8
        replace ho16 := (ho16.alloc (.cells #[.int .i64 n8, .slice a16 n16 c16] 24)).below hbw8
        replace hB := below_th (below_al hB (.cells #[.int .i64 n8, .slice a16 n16 c16] 24)) hbw8
        have e18 : n4 = n18 := by have := ho18.tbl.len; rw [tabF_len] at this; exact this.symm
        subst e18
        go_wp2_with fail
        refine (HRE.out _ _ _ _ ho3.row (by omega)).mono ?_
        rintro e w9 ⟨a20, n20, c20, rfl, ho20, hbw9⟩
        replace hL3 := hL3.below hbw9 hL3.lt
        replace l3 := hL3.two
        replace hL16 := hL16.below hbw9 hL16.lt
        replace l16 := hL16.two
        replace ho3 := ho3.below hbw9
        replace ho4 := ho4.below hbw9
        replace ho8 := ho8.below hbw9
        replace ho16 := ho16.below hbw9
        replace ho18 := ho18.below hbw9
        replace hB := below_th hB hbw9
        have m3 := (hL3.alloc (.cells #[.int .i64 n8, .slice a20 n20 c20] 24)).two
        have m16 := (hL16.alloc (.cells #[.int .i64 n8, .slice a20 n20 c20] 24)).two
        have m20 := (Loc.new w9 rfl #[.int .i64 n8, .slice a20 n20 c20] 24).two
        go_wp2_with fail
        refine (HRE2.out _ _ _ _ (ho20.alloc (.cells #[.int .i64 n8, .slice a20 n20 c20] 24)).row (by have := ho20.len; rw [List.length_reverse] at this; omega)).mono ?_
        rintro e w10 ⟨a22, n22, c22, rfl, ho22, hbw10⟩
        clear m3 m16 m20
        replace hL3 := (hL3.alloc (.cells #[.int .i64 n8, .slice a20 n20 c20] 24)).below hbw10 (hL3.alloc (.cells #[.int .i64 n8, .slice a20 n20 c20] 24)).lt
        replace l3 := hL3.two
        replace hL16 := (hL16.alloc (.cells #[.int .i64 n8, .slice a20 n20 c20] 24)).below hbw10 (hL16.alloc (.cells #[.int .i64 n8, .slice a20 n20 c20] 24)).lt
        replace l16 := hL16.two
        have hL20 := (Loc.new w9 rfl #[.int .i64 n8, .slice a20 n20 c20] 24).below hbw10 (Loc.new w9 rfl #[.int .i64 n8, .slice a20 n20 c20] 24).lt
        have l20 := hL20.two
        replace ho3 := (ho3.alloc (.cells #[.int .i64 n8, .slice a20 n20 c20] 24)).below hbw10
        replace ho4 := (ho4.alloc (.cells #[.int .i64 n8, .slice a20 n20 c20] 24)).below hbw10
        replace ho8 := (ho8.alloc (.cells #[.int .i64 n8, .slice a20 n20 c20] 24)).below hbw10
        replace ho16 := (ho16.alloc (.cells #[.int .i64 n8, .slice a20 n20 c20] 24)).below hbw10
        replace ho18 := (ho18.alloc (.cells #[.int .i64 n8, .slice a20 n20 c20] 24)).below hbw10
        replace ho20 := (ho20.alloc (.cells #[.int .i64 n8, .slice a20 n20 c20] 24)).below hbw10
        replace hB := below_th (below_al hB (.cells #[.int .i64 n8, .slice a20 n20 c20] 24)) hbw10
        have r3 : (sgS ys != sgS ys) = false := by simp
        have m3 := (hL3.alloc (.cells #[.int .i64 n8, .slice a22 n22 c22] 24)).two
        have m16 := (hL16.alloc (.cells #[.int .i64 n8, .slice a22 n22 c22] 24)).two
        have m20 := (hL20.alloc (.cells #[.int .i64 n8, .slice a22 n22 c22] 24)).two
        have m22 := (Loc.new w10 rfl #[.int .i64 n8, .slice a22 n22 c22] 24).two
        go_wp2_with fail
        refine (braid9_same _ _ _ _ _ _ _ ys _ (ho22.alloc (.cells #[.int .i64 n8, .slice a22 n22 c22] 24)).row (ho3.alloc (.cells #[.int .i64 n8, .slice a22 n22 c22] 24)).row (by have := ho22.len; omega)).mono ?_
        rintro e w11 ⟨rfl, hbw11⟩
        clear m3 m16 m20 m22
        replace hL3 := (hL3.alloc (.cells #[.int .i64 n8, .slice a22 n22 c22] 24)).below hbw11 (hL3.alloc (.cells #[.int .i64 n8, .slice a22 n22 c22] 24)).lt
        replace l3 := hL3.two
        replace hL16 := (hL16.alloc (.cells #[.int .i64 n8, .slice a22 n22 c22] 24)).below hbw11 (hL16.alloc (.cells #[.int .i64 n8, .slice a22 n22 c22] 24)).lt
        replace l16 := hL16.two
        replace hL20 := (hL20.alloc (.cells #[.int .i64 n8, .slice a22 n22 c22] 24)).below hbw11 (hL20.alloc (.cells #[.int .i64 n8, .slice a22 n22 c22] 24)).lt
        replace l20 := hL20.two
        have hL22 := (Loc.new w10 rfl #[.int .i64 n8, .slice a22 n22 c22] 24).below hbw11 (Loc.new w10 rfl #[.int .i64 n8, .slice a22 n22 c22] 24).lt
        have l22 := hL22.two
        replace ho3 := (ho3.alloc (.cells #[.int .i64 n8, .slice a22 n22 c22] 24)).below hbw11
        replace ho4 := (ho4.alloc (.cells #[.int .i64 n8, .slice a22 n22 c22] 24)).below hbw11
        replace ho8 := (ho8.alloc (.cells #[.int .i64 n8, .slice a22 n22 c22] 24)).below hbw11
        replace ho16 := (ho16.alloc (.cells #[.int .i64 n8, .slice a22 n22 c22] 24)).below hbw11
        replace ho18 := (ho18.alloc (.cells #[.int .i64 n8, .slice a22 n22 c22] 24)).below hbw11
        replace ho20 := (ho20.alloc (.cells #[.int .i64 n8, .slice a22 n22 c22] 24)).below hbw11
        replace ho22 := (ho22.alloc (.cells #[.int .i64 n8, .slice a22 n22 c22] 24)).below hbw11
        replace hB := below_th (below_al hB (.cells #[.int .i64 n8, .slice a22 n22 c22] 24)) hbw11
        clear hL3 l3 hL16 l16 hL20 l20 hL22 l22
        go_wp2
        go_loopw [24, 25] (fun x _ wr => ∃ i : Nat, i ≤ n4 ∧ x = .int .i64 i ∧ Hid (∃ k, wr = w11.drewN k)) (fun x _ _ => n4 - (intOf x).toNat)
        case atStart => exact ⟨0, Nat.zero_le _, rfl, ⟨0, rfl⟩⟩
        case round =>
          obtain ⟨i, hi, rfl, HW⟩ := hrel
          obtain ⟨k0, hk0⟩ := HW.out
          have hbr : Below w11.heap.size w11 wr := by rw [hk0]; exact below_drewN (Below.refl _ _) k0
          clear hk0
          by_cases hlt : i < n4
          · go_wp2
            go_loopw [25] (fun y wr => ∃ j : Nat, j ≤ n4 ∧ y = .int .i64 j ∧ Hid (∃ k, wr = w11.drewN k)) (fun y _ => n4 - (intOf y).toNat)
            case atStart => exact ⟨0, Nat.zero_le _, rfl, HW.out⟩
            case round =>
              obtain ⟨j, hj, rfl, HW2⟩ := hrel
              obtain ⟨k1, hk1⟩ := HW2.out
              have hbr2 : Below w11.heap.size w11 wr := by rw [hk1]; exact below_drewN (Below.refl _ _) k1
              clear hk1
              by_cases hlt2 : j < n4
              · obtain ⟨b1, off1, ai1, ci1, rfl, g1, hrow1⟩ := tblF_at (ho4.tbl.below hbr2) i hlt
                obtain ⟨b2, o2, rfl, g2⟩ := hrow1 j hlt2
                obtain ⟨b3, off3, ai3, ci3, rfl, g3, hrow3⟩ := tblF_at (ho18.tbl.below hbr2) i hlt
                obtain ⟨b4, o4, rfl, g4⟩ := hrow3 j hlt2
                have hV := HH.out i j
                obtain ⟨V, HV⟩ : ∃ V, Hid (H i j = V) := ⟨_, rfl⟩
                rw [HV.out] at g2 g4 hV
                obtain ⟨hV1, hV2⟩ := hV
                have hne : (-V != -V) = false := by simp
                have hng : IntKind.i64.wrap (-V) = -V := IntWalk.i64_in _ ⟨by omega, by omega⟩
                have i1 : (0 : Int) ≤ (i : Int) := by omega
                have i2 : (i : Int) < (n4 : Int) := by omega
                have i3 : (0 : Int) ≤ (j : Int) := by omega
                have i4 : (j : Int) < (n4 : Int) := by omega
                clear hrow1 hrow3
                go_wp2
                go_quiet (fail)
                go_wp2
                go_roundw
                case rel =>
                  refine ⟨j + 1, by omega, by go_num, ?_⟩
                  obtain ⟨k, hk⟩ := HW2.out
                  exact ⟨k + nq, by rw [hk, World.drewN_drewN]⟩
                case measure => simp [intOf]; omega
              · obtain rfl : j = n4 := by omega
                go_wp2
                go_roundw
                case rel => exact ⟨i + 1, by omega, by go_num, HW2.out⟩
                case measure => simp [intOf]; omega
          · obtain rfl : n4 = i := by omega
            replace ho4 := ho4.below hbr
            replace ho8 := ho8.below hbr
            replace ho18 := ho18.below hbr
            replace hB := below_th hB hbr
            clear HLI HLS HCM HLN HBS HMI HRE HRE2 HLG HSYM HSUM HH HLL
            go_wp2_with fail
            refine (DrawStabilizeBraid_ok a n c xs _ (h.below hB) hn).mono ?_
            rintro e w12 ⟨S2, a26, n26, c26, zs, g2, rfl, hS21, hS22, hn26, hsm2, hg2, ho26, hbw12⟩
            replace hB := below_th hB hbw12
            have hsi := fun a n c w h1 hm => impl_Stab_any S2 a n c zs g2 w h1 hm ⟨by omega, by omega⟩ hg2
            have hss := fun a n c w h1 hm => spec_Stab_any S2 a n c zs g2 w h1 hm ⟨by omega, by omega⟩ hg2
            rcases stab_facts S2 zs g2 with ⟨k2, hk2, hF2⟩ | ⟨vv, L2, L2', hF2, hbr2, hbt2, ht30, hD2, hc2, hc2', hl2, hl2', hbL2, hbL2', hnum2⟩
            · simp only [hF2] at hsi hss
              have HSI := Lib.hid hsi; have HSS := Lib.hid hss
              clear hsi hss hF2
              have m26 := (Loc.new w12 rfl #[.int .i64 S2, .slice a26 n26 c26] 24).two
              go_wp2_with fail
              refine (HSI.out _ _ _ _ (ho26.alloc (.cells #[.int .i64 S2, .slice a26 n26 c26] 24)).row (by omega)).mono ?_
              rintro e w13 ⟨a28, n28, c28, rfl, ho28, hbw13⟩
              clear m26
              have hL26 := (Loc.new w12 rfl #[.int .i64 S2, .slice a26 n26 c26] 24).below hbw13 (Loc.new w12 rfl #[.int .i64 S2, .slice a26 n26 c26] 24).lt
              have l26 := hL26.two
              replace ho26 := (ho26.alloc (.cells #[.int .i64 S2, .slice a26 n26 c26] 24)).below hbw13
              replace hB := below_th (below_al hB (.cells #[.int .i64 S2, .slice a26 n26 c26] 24)) hbw13
              have m26 := (hL26.alloc (.cells #[.int .i64 0, .slice a28 n28 c28] 24)).two
              have m28 := (Loc.new w13 rfl #[.int .i64 0, .slice a28 n28 c28] 24).two
              go_wp2_with fail
              refine (HSS.out _ _ _ _ (ho26.alloc (.cells #[.int .i64 0, .slice a28 n28 c28] 24)).row (by omega)).mono ?_
              rintro e w14 ⟨a30, n30, c30, rfl, ho30, hbw14⟩
              clear m26 m28
              replace hL26 := (hL26.alloc (.cells #[.int .i64 0, .slice a28 n28 c28] 24)).below hbw14 (hL26.alloc (.cells #[.int .i64 0, .slice a28 n28 c28] 24)).lt
              replace l26 := hL26.two
              have hL28 := (Loc.new w13 rfl #[.int .i64 0, .slice a28 n28 c28] 24).below hbw14 (Loc.new w13 rfl #[.int .i64 0, .slice a28 n28 c28] 24).lt
              have l28 := hL28.two
              replace ho26 := (ho26.alloc (.cells #[.int .i64 0, .slice a28 n28 c28] 24)).below hbw14
              replace ho28 := (ho28.alloc (.cells #[.int .i64 0, .slice a28 n28 c28] 24)).below hbw14
              replace hB := below_th (below_al hB (.cells #[.int .i64 0, .slice a28 n28 c28] 24)) hbw14
              have p1 : (k2 == k2) = true := by simp
              have p2 : (k2 != k2) = false := by simp
              have p3 : (k2 == 0) = false := by simp; omega
              have p4 : ¬ k2 = 0 := by omega
              have m26 := (hL26.alloc (.cells #[.int .i64 0, .slice a30 n30 c30] 24)).two
              have m28 := (hL28.alloc (.cells #[.int .i64 0, .slice a30 n30 c30] 24)).two
              have m30 := (Loc.new w14 rfl #[.int .i64 0, .slice a30 n30 c30] 24).two
              go_wp2_with fail
              refine (braid9_same _ _ _ _ _ _ _ [] _ (ho28.alloc (.cells #[.int .i64 0, .slice a30 n30 c30] 24)).row (ho30.alloc (.cells #[.int .i64 0, .slice a30 n30 c30] 24)).row (by have := ho28.len; (try simp at this); omega)).mono ?_
              rintro e w15 ⟨rfl, hbw15⟩
              clear m26 m28 m30
              replace hL26 := (hL26.alloc (.cells #[.int .i64 0, .slice a30 n30 c30] 24)).below hbw15 (hL26.alloc (.cells #[.int .i64 0, .slice a30 n30 c30] 24)).lt
              replace l26 := hL26.two
              replace hL28 := (hL28.alloc (.cells #[.int .i64 0, .slice a30 n30 c30] 24)).below hbw15 (hL28.alloc (.cells #[.int .i64 0, .slice a30 n30 c30] 24)).lt
              replace l28 := hL28.two
              have hL30 := (Loc.new w14 rfl #[.int .i64 0, .slice a30 n30 c30] 24).below hbw15 (Loc.new w14 rfl #[.int .i64 0, .slice a30 n30 c30] 24).lt
              have l30 := hL30.two
              replace ho26 := (ho26.alloc (.cells #[.int .i64 0, .slice a30 n30 c30] 24)).below hbw15
              replace ho28 := (ho28.alloc (.cells #[.int .i64 0, .slice a30 n30 c30] 24)).below hbw15
              replace ho30 := (ho30.alloc (.cells #[.int .i64 0, .slice a30 n30 c30] 24)).below hbw15
              replace hB := below_th (below_al hB (.cells #[.int .i64 0, .slice a30 n30 c30] 24)) hbw15
              clear hL30 l30
              clear hL26 l26 hL28 l28
              go_wp2_with fail
              refine (DrawConjugateBraid_ok a n c xs _ (h.below hB) hn).mono ?_
              rintro e w16 ⟨S3, a38, n38, c38, us, g3, rfl, hS31, hS32, hn38, hsm3, hg3, ho38, hbw16⟩
              replace hB := below_th hB hbw16
              have hci := fun a n c w h1 hm => impl_Conj_any S3 a n c us g3 w h1 hm ⟨by omega, by omega⟩ hg3
              have hcs := fun a n c w h1 hm => spec_Conj_any S3 a n c us g3 w h1 hm ⟨by omega, by omega⟩ hg3
              rcases conj_facts S3 us g3 with ⟨k3, hk3, hF3⟩ | ⟨ts, L3, L3', hF3, hbr3, hbt3, ht30, hc3, hc3', hl3, hl3', hbL3, hbL3', hnum3⟩
              · simp only [hF3] at hci hcs
                have HCI := Lib.hid hci; have HCS := Lib.hid hcs
                clear hci hcs hF3
                have m38 := (Loc.new w16 rfl #[.int .i64 S3, .slice a38 n38 c38] 24).two
                go_wp2_with fail
                refine (HCI.out _ _ _ _ (ho38.alloc (.cells #[.int .i64 S3, .slice a38 n38 c38] 24)).row (by omega)).mono ?_
                rintro e w17 ⟨a40, n40, c40, rfl, ho40, hbw17⟩
                clear m38
                have hL38 := (Loc.new w16 rfl #[.int .i64 S3, .slice a38 n38 c38] 24).below hbw17 (Loc.new w16 rfl #[.int .i64 S3, .slice a38 n38 c38] 24).lt
                have l38 := hL38.two
                replace ho38 := (ho38.alloc (.cells #[.int .i64 S3, .slice a38 n38 c38] 24)).below hbw17
                replace hB := below_th (below_al hB (.cells #[.int .i64 S3, .slice a38 n38 c38] 24)) hbw17
                have m38 := (hL38.alloc (.cells #[.int .i64 0, .slice a40 n40 c40] 24)).two
                have m40 := (Loc.new w17 rfl #[.int .i64 0, .slice a40 n40 c40] 24).two
                go_wp2_with fail
                refine (HCS.out _ _ _ _ (ho38.alloc (.cells #[.int .i64 0, .slice a40 n40 c40] 24)).row (by omega)).mono ?_
                rintro e w18 ⟨a42, n42, c42, rfl, ho42, hbw18⟩
                clear m38 m40
                replace hL38 := (hL38.alloc (.cells #[.int .i64 0, .slice a40 n40 c40] 24)).below hbw18 (hL38.alloc (.cells #[.int .i64 0, .slice a40 n40 c40] 24)).lt
                replace l38 := hL38.two
                have hL40 := (Loc.new w17 rfl #[.int .i64 0, .slice a40 n40 c40] 24).below hbw18 (Loc.new w17 rfl #[.int .i64 0, .slice a40 n40 c40] 24).lt
                have l40 := hL40.two
                replace ho38 := (ho38.alloc (.cells #[.int .i64 0, .slice a40 n40 c40] 24)).below hbw18
                replace ho40 := (ho40.alloc (.cells #[.int .i64 0, .slice a40 n40 c40] 24)).below hbw18
                replace hB := below_th (below_al hB (.cells #[.int .i64 0, .slice a40 n40 c40] 24)) hbw18
                have q1 : (k3 == k3) = true := by simp
                have q2 : (k3 != k3) = false := by simp
                have q3 : (k3 != 0) = true := by simp; omega
                have q4 : ¬ k3 = 0 := by omega
                have m38 := (hL38.alloc (.cells #[.int .i64 0, .slice a42 n42 c42] 24)).two
                have m40 := (hL40.alloc (.cells #[.int .i64 0, .slice a42 n42 c42] 24)).two
                have m42 := (Loc.new w18 rfl #[.int .i64 0, .slice a42 n42 c42] 24).two
                go_wp2_with fail
                refine (braid9_same _ _ _ _ _ _ _ [] _ (ho40.alloc (.cells #[.int .i64 0, .slice a42 n42 c42] 24)).row (ho42.alloc (.cells #[.int .i64 0, .slice a42 n42 c42] 24)).row (by have := ho40.len; (try simp at this); omega)).mono ?_
                rintro e w19 ⟨rfl, hbw19⟩
                clear m38 m40 m42
                replace hL38 := (hL38.alloc (.cells #[.int .i64 0, .slice a42 n42 c42] 24)).below hbw19 (hL38.alloc (.cells #[.int .i64 0, .slice a42 n42 c42] 24)).lt
                replace l38 := hL38.two
                replace hL40 := (hL40.alloc (.cells #[.int .i64 0, .slice a42 n42 c42] 24)).below hbw19 (hL40.alloc (.cells #[.int .i64 0, .slice a42 n42 c42] 24)).lt
                replace l40 := hL40.two
                have hL42 := (Loc.new w18 rfl #[.int .i64 0, .slice a42 n42 c42] 24).below hbw19 (Loc.new w18 rfl #[.int .i64 0, .slice a42 n42 c42] 24).lt
                have l42 := hL42.two
                replace ho38 := (ho38.alloc (.cells #[.int .i64 0, .slice a42 n42 c42] 24)).below hbw19
                replace ho40 := (ho40.alloc (.cells #[.int .i64 0, .slice a42 n42 c42] 24)).below hbw19
                replace ho42 := (ho42.alloc (.cells #[.int .i64 0, .slice a42 n42 c42] 24)).below hbw19
                replace hB := below_th (below_al hB (.cells #[.int .i64 0, .slice a42 n42 c42] 24)) hbw19
                clear hL42 l42
                go_wp2
                go_ret
                exact ⟨rfl, hB⟩
              · have hxa := br_i64 hbr3
                have hxb := br_i64 hbt3
                have hc1 := fun a n c w h1 hm => impl_Comp_l S3 a n c us w hxa.2 h1 hm hxa.1
                have hc2 := fun a n c w h1 hm => impl_Comp_l S3 a n c ts w hxb.2 h1 hm hxb.1
                simp only [hc3] at hc1
                simp only [hc3'] at hc2
                have HC1 := Lib.hid hc1; have HC2 := Lib.hid hc2; have HN3 := Lib.hid hnum3
                clear hc1 hc2 hc3 hc3' hnum3 hxa hxb hbr3 hbt3
                simp only [hF3] at hci hcs
                have HCI := Lib.hid hci; have HCS := Lib.hid hcs
                clear hci hcs hF3
                have m38 := (Loc.new w16 rfl #[.int .i64 S3, .slice a38 n38 c38] 24).two
                go_wp2_with fail
                refine (HCI.out _ _ _ _ (ho38.alloc (.cells #[.int .i64 S3, .slice a38 n38 c38] 24)).row (by omega)).mono ?_
                rintro e w17 ⟨a40, n40, c40, rfl, ho40, hbw17⟩
                clear m38
                have hL38 := (Loc.new w16 rfl #[.int .i64 S3, .slice a38 n38 c38] 24).below hbw17 (Loc.new w16 rfl #[.int .i64 S3, .slice a38 n38 c38] 24).lt
                have l38 := hL38.two
                replace ho38 := (ho38.alloc (.cells #[.int .i64 S3, .slice a38 n38 c38] 24)).below hbw17
                replace hB := below_th (below_al hB (.cells #[.int .i64 S3, .slice a38 n38 c38] 24)) hbw17
                have m38 := (hL38.alloc (.cells #[.int .i64 S3, .slice a40 n40 c40] 24)).two
                have m40 := (Loc.new w17 rfl #[.int .i64 S3, .slice a40 n40 c40] 24).two
                go_wp2_with fail
                refine (HCS.out _ _ _ _ (ho38.alloc (.cells #[.int .i64 S3, .slice a40 n40 c40] 24)).row (by omega)).mono ?_
                rintro e w18 ⟨a42, n42, c42, rfl, ho42, hbw18⟩
                clear m38 m40
                replace hL38 := (hL38.alloc (.cells #[.int .i64 S3, .slice a40 n40 c40] 24)).below hbw18 (hL38.alloc (.cells #[.int .i64 S3, .slice a40 n40 c40] 24)).lt
                replace l38 := hL38.two
                have hL40 := (Loc.new w17 rfl #[.int .i64 S3, .slice a40 n40 c40] 24).below hbw18 (Loc.new w17 rfl #[.int .i64 S3, .slice a40 n40 c40] 24).lt
                have l40 := hL40.two
                replace ho38 := (ho38.alloc (.cells #[.int .i64 S3, .slice a40 n40 c40] 24)).below hbw18
                replace ho40 := (ho40.alloc (.cells #[.int .i64 S3, .slice a40 n40 c40] 24)).below hbw18
                replace hB := below_th (below_al hB (.cells #[.int .i64 S3, .slice a40 n40 c40] 24)) hbw18
                have m38 := (hL38.alloc (.cells #[.int .i64 S3, .slice a42 n42 c42] 24)).two
                have m40 := (hL40.alloc (.cells #[.int .i64 S3, .slice a42 n42 c42] 24)).two
                have m42 := (Loc.new w18 rfl #[.int .i64 S3, .slice a42 n42 c42] 24).two
                go_wp2_with fail
                refine (braid9_same _ _ _ _ _ _ _ ts _ (ho40.alloc (.cells #[.int .i64 S3, .slice a42 n42 c42] 24)).row (ho42.alloc (.cells #[.int .i64 S3, .slice a42 n42 c42] 24)).row (by have := ho40.len; (try simp at this); omega)).mono ?_
                rintro e w19 ⟨rfl, hbw19⟩
                clear m38 m40 m42
                replace hL38 := (hL38.alloc (.cells #[.int .i64 S3, .slice a42 n42 c42] 24)).below hbw19 (hL38.alloc (.cells #[.int .i64 S3, .slice a42 n42 c42] 24)).lt
                replace l38 := hL38.two
                replace hL40 := (hL40.alloc (.cells #[.int .i64 S3, .slice a42 n42 c42] 24)).below hbw19 (hL40.alloc (.cells #[.int .i64 S3, .slice a42 n42 c42] 24)).lt
                replace l40 := hL40.two
                have hL42 := (Loc.new w18 rfl #[.int .i64 S3, .slice a42 n42 c42] 24).below hbw19 (Loc.new w18 rfl #[.int .i64 S3, .slice a42 n42 c42] 24).lt
                have l42 := hL42.two
                replace ho38 := (ho38.alloc (.cells #[.int .i64 S3, .slice a42 n42 c42] 24)).below hbw19
                replace ho40 := (ho40.alloc (.cells #[.int .i64 S3, .slice a42 n42 c42] 24)).below hbw19
                replace ho42 := (ho42.alloc (.cells #[.int .i64 S3, .slice a42 n42 c42] 24)).below hbw19
                replace hB := below_th (below_al hB (.cells #[.int .i64 S3, .slice a42 n42 c42] 24)) hbw19
                clear hL42 l42
                go_wp2_with fail
                refine (HC1.out _ _ _ _ ho38.row (by omega)).mono ?_
                rintro e w20 ⟨a44, n44, c44, rfl, ho44, hbw20⟩
                replace hL38 := hL38.below hbw20 hL38.lt
                replace l38 := hL38.two
                replace hL40 := hL40.below hbw20 hL40.lt
                replace l40 := hL40.two
                replace ho38 := ho38.below hbw20
                replace ho40 := ho40.below hbw20
                replace hB := below_th hB hbw20
                have hz40 : n40 ≤ 30 := by have := ho40.len; omega
                go_wp2_with fail
                refine (HC2.out _ _ _ _ ho40.row (by omega)).mono ?_
                rintro e w21 ⟨a46, n46, c46, rfl, ho46, hbw21⟩
                replace hL38 := hL38.below hbw21 hL38.lt
                replace l38 := hL38.two
                replace hL40 := hL40.below hbw21 hL40.lt
                replace l40 := hL40.two
                replace ho38 := ho38.below hbw21
                replace ho40 := ho40.below hbw21
                replace ho44 := ho44.below hbw21
                replace hB := below_th hB hbw21
                go_wp2_with fail
                refine (most9_any a44 n44 c44 L3 _ ho44.row (by have := ho44.len; omega) hbL3).mono ?_
                rintro e ww ⟨rfl, hww⟩
                subst hww
                go_wp2_with fail
                refine (most9_any a46 n46 c46 L3' _ ho46.row (by have := ho46.len; omega) hbL3').mono ?_
                rintro e ww ⟨rfl, hww⟩
                subst hww
                rw [HN3.out]
                have q9 : (grtL L3' == grtL L3') = true := by simp
                go_wp2
                go_ret
                exact ⟨rfl, hB⟩
            · have hxa := br_i64 hbr2
              have hxb := br_i64 hbt2
              have hc1 := fun a n c w h1 hm => impl_Comp_l S2 a n c zs w hxa.2 h1 hm hxa.1
              have hc9 := fun a n c w h1 hm => impl_Comp_l (S2 + 1) a n c vv w hxb.2 h1 hm hxb.1
              have hd9 := fun a n c w h1 hm hnc => impl_Dest_any (S2 + 1) a n c vv w h1 hm hxb.2 hnc
              simp only [hc2] at hc1
              simp only [hc2'] at hc9
              simp only [hD2] at hd9
              have HC1 := Lib.hid hc1; have HC2 := Lib.hid hc9; have HD2 := Lib.hid hd9; have HN2 := Lib.hid hnum2
              clear hc1 hc9 hd9 hc2 hc2' hD2 hnum2 hxa hxb hbr2 hbt2
              simp only [hF2] at hsi hss
              have HSI := Lib.hid hsi; have HSS := Lib.hid hss
              clear hsi hss hF2
              have m26 := (Loc.new w12 rfl #[.int .i64 S2, .slice a26 n26 c26] 24).two
              go_wp2_with fail
              refine (HSI.out _ _ _ _ (ho26.alloc (.cells #[.int .i64 S2, .slice a26 n26 c26] 24)).row (by omega)).mono ?_
              rintro e w13 ⟨a28, n28, c28, rfl, ho28, hbw13⟩
              clear m26
              have hL26 := (Loc.new w12 rfl #[.int .i64 S2, .slice a26 n26 c26] 24).below hbw13 (Loc.new w12 rfl #[.int .i64 S2, .slice a26 n26 c26] 24).lt
              have l26 := hL26.two
              replace ho26 := (ho26.alloc (.cells #[.int .i64 S2, .slice a26 n26 c26] 24)).below hbw13
              replace hB := below_th (below_al hB (.cells #[.int .i64 S2, .slice a26 n26 c26] 24)) hbw13
              have m26 := (hL26.alloc (.cells #[.int .i64 (S2 + 1), .slice a28 n28 c28] 24)).two
              have m28 := (Loc.new w13 rfl #[.int .i64 (S2 + 1), .slice a28 n28 c28] 24).two
              go_wp2_with fail
              refine (HSS.out _ _ _ _ (ho26.alloc (.cells #[.int .i64 (S2 + 1), .slice a28 n28 c28] 24)).row (by omega)).mono ?_
              rintro e w14 ⟨a30, n30, c30, rfl, ho30, hbw14⟩
              clear m26 m28
              replace hL26 := (hL26.alloc (.cells #[.int .i64 (S2 + 1), .slice a28 n28 c28] 24)).below hbw14 (hL26.alloc (.cells #[.int .i64 (S2 + 1), .slice a28 n28 c28] 24)).lt
              replace l26 := hL26.two
              have hL28 := (Loc.new w13 rfl #[.int .i64 (S2 + 1), .slice a28 n28 c28] 24).below hbw14 (Loc.new w13 rfl #[.int .i64 (S2 + 1), .slice a28 n28 c28] 24).lt
              have l28 := hL28.two
              replace ho26 := (ho26.alloc (.cells #[.int .i64 (S2 + 1), .slice a28 n28 c28] 24)).below hbw14
              replace ho28 := (ho28.alloc (.cells #[.int .i64 (S2 + 1), .slice a28 n28 c28] 24)).below hbw14
              replace hB := below_th (below_al hB (.cells #[.int .i64 (S2 + 1), .slice a28 n28 c28] 24)) hbw14
              have m26 := (hL26.alloc (.cells #[.int .i64 (S2 + 1), .slice a30 n30 c30] 24)).two
              have m28 := (hL28.alloc (.cells #[.int .i64 (S2 + 1), .slice a30 n30 c30] 24)).two
              have m30 := (Loc.new w14 rfl #[.int .i64 (S2 + 1), .slice a30 n30 c30] 24).two
              go_wp2_with fail
              refine (braid9_same _ _ _ _ _ _ _ vv _ (ho28.alloc (.cells #[.int .i64 (S2 + 1), .slice a30 n30 c30] 24)).row (ho30.alloc (.cells #[.int .i64 (S2 + 1), .slice a30 n30 c30] 24)).row (by have := ho28.len; (try simp at this); omega)).mono ?_
              rintro e w15 ⟨rfl, hbw15⟩
              clear m26 m28 m30
              replace hL26 := (hL26.alloc (.cells #[.int .i64 (S2 + 1), .slice a30 n30 c30] 24)).below hbw15 (hL26.alloc (.cells #[.int .i64 (S2 + 1), .slice a30 n30 c30] 24)).lt
              replace l26 := hL26.two
              replace hL28 := (hL28.alloc (.cells #[.int .i64 (S2 + 1), .slice a30 n30 c30] 24)).below hbw15 (hL28.alloc (.cells #[.int .i64 (S2 + 1), .slice a30 n30 c30] 24)).lt
              replace l28 := hL28.two
              have hL30 := (Loc.new w14 rfl #[.int .i64 (S2 + 1), .slice a30 n30 c30] 24).below hbw15 (Loc.new w14 rfl #[.int .i64 (S2 + 1), .slice a30 n30 c30] 24).lt
              have l30 := hL30.two
              replace ho26 := (ho26.alloc (.cells #[.int .i64 (S2 + 1), .slice a30 n30 c30] 24)).below hbw15
              replace ho28 := (ho28.alloc (.cells #[.int .i64 (S2 + 1), .slice a30 n30 c30] 24)).below hbw15
              replace ho30 := (ho30.alloc (.cells #[.int .i64 (S2 + 1), .slice a30 n30 c30] 24)).below hbw15
              replace hB := below_th (below_al hB (.cells #[.int .i64 (S2 + 1), .slice a30 n30 c30] 24)) hbw15
              clear hL30 l30
              have hz28 : n28 ≤ 30 := by have := ho28.len; omega
              go_wp2_with fail
              refine (HD2.out _ _ _ _ ho28.row (by omega) ho28.cap.1).mono ?_
              rintro e w16 ⟨a32, n32, c32, rfl, ho32, hbw16⟩
              replace hL26 := hL26.below hbw16 hL26.lt
              replace l26 := hL26.two
              replace hL28 := hL28.below hbw16 hL28.lt
              replace l28 := hL28.two
              replace ho26 := ho26.below hbw16
              replace ho28 := ho28.below hbw16
              replace hB := below_th hB hbw16
              have m26 := (hL26.alloc (.cells #[.int .i64 S2, .slice a32 n32 c32] 24)).two
              have m28 := (hL28.alloc (.cells #[.int .i64 S2, .slice a32 n32 c32] 24)).two
              have m32 := (Loc.new w16 rfl #[.int .i64 S2, .slice a32 n32 c32] 24).two
              go_wp2_with fail
              refine (HC1.out _ _ _ _ (ho26.alloc (.cells #[.int .i64 S2, .slice a32 n32 c32] 24)).row (by omega)).mono ?_
              rintro e w17 ⟨a34, n34, c34, rfl, ho34, hbw17⟩
              clear m26 m28 m32
              replace hL26 := (hL26.alloc (.cells #[.int .i64 S2, .slice a32 n32 c32] 24)).below hbw17 (hL26.alloc (.cells #[.int .i64 S2, .slice a32 n32 c32] 24)).lt
              replace l26 := hL26.two
              replace hL28 := (hL28.alloc (.cells #[.int .i64 S2, .slice a32 n32 c32] 24)).below hbw17 (hL28.alloc (.cells #[.int .i64 S2, .slice a32 n32 c32] 24)).lt
              replace l28 := hL28.two
              have hL32 := (Loc.new w16 rfl #[.int .i64 S2, .slice a32 n32 c32] 24).below hbw17 (Loc.new w16 rfl #[.int .i64 S2, .slice a32 n32 c32] 24).lt
              have l32 := hL32.two
              replace ho26 := (ho26.alloc (.cells #[.int .i64 S2, .slice a32 n32 c32] 24)).below hbw17
              replace ho28 := (ho28.alloc (.cells #[.int .i64 S2, .slice a32 n32 c32] 24)).below hbw17
              replace ho32 := (ho32.alloc (.cells #[.int .i64 S2, .slice a32 n32 c32] 24)).below hbw17
              replace hB := below_th (below_al hB (.cells #[.int .i64 S2, .slice a32 n32 c32] 24)) hbw17
              go_wp2_with fail
              refine (HC2.out _ _ _ _ ho28.row (by omega)).mono ?_
              rintro e w18 ⟨a36, n36, c36, rfl, ho36, hbw18⟩
              replace hL26 := hL26.below hbw18 hL26.lt
              replace l26 := hL26.two
              replace hL28 := hL28.below hbw18 hL28.lt
              replace l28 := hL28.two
              replace hL32 := hL32.below hbw18 hL32.lt
              replace l32 := hL32.two
              replace ho26 := ho26.below hbw18
              replace ho28 := ho28.below hbw18
              replace ho32 := ho32.below hbw18
              replace ho34 := ho34.below hbw18
              replace hB := below_th hB hbw18
              go_wp2_with fail
              refine (braid9_same _ _ _ _ _ _ _ zs _ ho32.row ho26.row (by have := ho32.len; have := ho26.len; omega)).mono ?_
              rintro e w19 ⟨rfl, hbw19⟩
              replace hL26 := hL26.below hbw19 hL26.lt
              replace l26 := hL26.two
              replace hL28 := hL28.below hbw19 hL28.lt
              replace l28 := hL28.two
              replace hL32 := hL32.below hbw19 hL32.lt
              replace l32 := hL32.two
              replace ho26 := ho26.below hbw19
              replace ho28 := ho28.below hbw19
              replace ho32 := ho32.below hbw19
              replace ho34 := ho34.below hbw19
              replace ho36 := ho36.below hbw19
              replace hB := below_th hB hbw19
              go_wp2_with fail
              refine (most9_any a34 n34 c34 L2 _ ho34.row (by have := ho34.len; omega) hbL2).mono ?_
              rintro e ww ⟨rfl, hww⟩
              subst hww
              go_wp2_with fail
              refine (most9_any a36 n36 c36 L2' _ ho36.row (by have := ho36.len; omega) hbL2').mono ?_
              rintro e ww ⟨rfl, hww⟩
              subst hww
              rw [HN2.out]
              have p9 : (grtL L2' != grtL L2') = false := by simp
              clear hL26 l26 hL28 l28 hL32 l32
              go_wp2_with fail
              refine (DrawConjugateBraid_ok a n c xs _ (h.below hB) hn).mono ?_
              rintro e w20 ⟨S3, a38, n38, c38, us, g3, rfl, hS31, hS32, hn38, hsm3, hg3, ho38, hbw20⟩
              replace hB := below_th hB hbw20
              have hci := fun a n c w h1 hm => impl_Conj_any S3 a n c us g3 w h1 hm ⟨by omega, by omega⟩ hg3
              have hcs := fun a n c w h1 hm => spec_Conj_any S3 a n c us g3 w h1 hm ⟨by omega, by omega⟩ hg3
              rcases conj_facts S3 us g3 with ⟨k3, hk3, hF3⟩ | ⟨ts, L3, L3', hF3, hbr3, hbt3, ht30, hc3, hc3', hl3, hl3', hbL3, hbL3', hnum3⟩
              · simp only [hF3] at hci hcs
                have HCI := Lib.hid hci; have HCS := Lib.hid hcs
                clear hci hcs hF3
                have m38 := (Loc.new w20 rfl #[.int .i64 S3, .slice a38 n38 c38] 24).two
                go_wp2_with fail
                refine (HCI.out _ _ _ _ (ho38.alloc (.cells #[.int .i64 S3, .slice a38 n38 c38] 24)).row (by omega)).mono ?_
                rintro e w21 ⟨a40, n40, c40, rfl, ho40, hbw21⟩
                clear m38
                have hL38 := (Loc.new w20 rfl #[.int .i64 S3, .slice a38 n38 c38] 24).below hbw21 (Loc.new w20 rfl #[.int .i64 S3, .slice a38 n38 c38] 24).lt
                have l38 := hL38.two
                replace ho38 := (ho38.alloc (.cells #[.int .i64 S3, .slice a38 n38 c38] 24)).below hbw21
                replace hB := below_th (below_al hB (.cells #[.int .i64 S3, .slice a38 n38 c38] 24)) hbw21
                have m38 := (hL38.alloc (.cells #[.int .i64 0, .slice a40 n40 c40] 24)).two
                have m40 := (Loc.new w21 rfl #[.int .i64 0, .slice a40 n40 c40] 24).two
                go_wp2_with fail
                refine (HCS.out _ _ _ _ (ho38.alloc (.cells #[.int .i64 0, .slice a40 n40 c40] 24)).row (by omega)).mono ?_
                rintro e w22 ⟨a42, n42, c42, rfl, ho42, hbw22⟩
                clear m38 m40
                replace hL38 := (hL38.alloc (.cells #[.int .i64 0, .slice a40 n40 c40] 24)).below hbw22 (hL38.alloc (.cells #[.int .i64 0, .slice a40 n40 c40] 24)).lt
                replace l38 := hL38.two
                have hL40 := (Loc.new w21 rfl #[.int .i64 0, .slice a40 n40 c40] 24).below hbw22 (Loc.new w21 rfl #[.int .i64 0, .slice a40 n40 c40] 24).lt
                have l40 := hL40.two
                replace ho38 := (ho38.alloc (.cells #[.int .i64 0, .slice a40 n40 c40] 24)).below hbw22
                replace ho40 := (ho40.alloc (.cells #[.int .i64 0, .slice a40 n40 c40] 24)).below hbw22
                replace hB := below_th (below_al hB (.cells #[.int .i64 0, .slice a40 n40 c40] 24)) hbw22
                have q1 : (k3 == k3) = true := by simp
                have q2 : (k3 != k3) = false := by simp
                have q3 : (k3 != 0) = true := by simp; omega
                have q4 : ¬ k3 = 0 := by omega
                have m38 := (hL38.alloc (.cells #[.int .i64 0, .slice a42 n42 c42] 24)).two
                have m40 := (hL40.alloc (.cells #[.int .i64 0, .slice a42 n42 c42] 24)).two
                have m42 := (Loc.new w22 rfl #[.int .i64 0, .slice a42 n42 c42] 24).two
                go_wp2_with fail
                refine (braid9_same _ _ _ _ _ _ _ [] _ (ho40.alloc (.cells #[.int .i64 0, .slice a42 n42 c42] 24)).row (ho42.alloc (.cells #[.int .i64 0, .slice a42 n42 c42] 24)).row (by have := ho40.len; (try simp at this); omega)).mono ?_
                rintro e w23 ⟨rfl, hbw23⟩
                clear m38 m40 m42
                replace hL38 := (hL38.alloc (.cells #[.int .i64 0, .slice a42 n42 c42] 24)).below hbw23 (hL38.alloc (.cells #[.int .i64 0, .slice a42 n42 c42] 24)).lt
                replace l38 := hL38.two
                replace hL40 := (hL40.alloc (.cells #[.int .i64 0, .slice a42 n42 c42] 24)).below hbw23 (hL40.alloc (.cells #[.int .i64 0, .slice a42 n42 c42] 24)).lt
                replace l40 := hL40.two
                have hL42 := (Loc.new w22 rfl #[.int .i64 0, .slice a42 n42 c42] 24).below hbw23 (Loc.new w22 rfl #[.int .i64 0, .slice a42 n42 c42] 24).lt
                have l42 := hL42.two
                replace ho38 := (ho38.alloc (.cells #[.int .i64 0, .slice a42 n42 c42] 24)).below hbw23
                replace ho40 := (ho40.alloc (.cells #[.int .i64 0, .slice a42 n42 c42] 24)).below hbw23
                replace ho42 := (ho42.alloc (.cells #[.int .i64 0, .slice a42 n42 c42] 24)).below hbw23
                replace hB := below_th (below_al hB (.cells #[.int .i64 0, .slice a42 n42 c42] 24)) hbw23
                clear hL42 l42
                go_wp2
                go_ret
                exact ⟨rfl, hB⟩
              · have hxa := br_i64 hbr3
                have hxb := br_i64 hbt3
                have hc1 := fun a n c w h1 hm => impl_Comp_l S3 a n c us w hxa.2 h1 hm hxa.1
                have hc2 := fun a n c w h1 hm => impl_Comp_l S3 a n c ts w hxb.2 h1 hm hxb.1
                simp only [hc3] at hc1
                simp only [hc3'] at hc2
                have HC1 := Lib.hid hc1; have HC2 := Lib.hid hc2; have HN3 := Lib.hid hnum3
                clear hc1 hc2 hc3 hc3' hnum3 hxa hxb hbr3 hbt3
                simp only [hF3] at hci hcs
                have HCI := Lib.hid hci; have HCS := Lib.hid hcs
                clear hci hcs hF3
                have m38 := (Loc.new w20 rfl #[.int .i64 S3, .slice a38 n38 c38] 24).two
                go_wp2_with fail
                refine (HCI.out _ _ _ _ (ho38.alloc (.cells #[.int .i64 S3, .slice a38 n38 c38] 24)).row (by omega)).mono ?_
                rintro e w21 ⟨a40, n40, c40, rfl, ho40, hbw21⟩
                clear m38
                have hL38 := (Loc.new w20 rfl #[.int .i64 S3, .slice a38 n38 c38] 24).below hbw21 (Loc.new w20 rfl #[.int .i64 S3, .slice a38 n38 c38] 24).lt
                have l38 := hL38.two
                replace ho38 := (ho38.alloc (.cells #[.int .i64 S3, .slice a38 n38 c38] 24)).below hbw21
                replace hB := below_th (below_al hB (.cells #[.int .i64 S3, .slice a38 n38 c38] 24)) hbw21
                have m38 := (hL38.alloc (.cells #[.int .i64 S3, .slice a40 n40 c40] 24)).two
                have m40 := (Loc.new w21 rfl #[.int .i64 S3, .slice a40 n40 c40] 24).two
                go_wp2_with fail
                refine (HCS.out _ _ _ _ (ho38.alloc (.cells #[.int .i64 S3, .slice a40 n40 c40] 24)).row (by omega)).mono ?_
                rintro e w22 ⟨a42, n42, c42, rfl, ho42, hbw22⟩
                clear m38 m40
                replace hL38 := (hL38.alloc (.cells #[.int .i64 S3, .slice a40 n40 c40] 24)).below hbw22 (hL38.alloc (.cells #[.int .i64 S3, .slice a40 n40 c40] 24)).lt
                replace l38 := hL38.two
                have hL40 := (Loc.new w21 rfl #[.int .i64 S3, .slice a40 n40 c40] 24).below hbw22 (Loc.new w21 rfl #[.int .i64 S3, .slice a40 n40 c40] 24).lt
                have l40 := hL40.two
                replace ho38 := (ho38.alloc (.cells #[.int .i64 S3, .slice a40 n40 c40] 24)).below hbw22
                replace ho40 := (ho40.alloc (.cells #[.int .i64 S3, .slice a40 n40 c40] 24)).below hbw22
                replace hB := below_th (below_al hB (.cells #[.int .i64 S3, .slice a40 n40 c40] 24)) hbw22
                have m38 := (hL38.alloc (.cells #[.int .i64 S3, .slice a42 n42 c42] 24)).two
                have m40 := (hL40.alloc (.cells #[.int .i64 S3, .slice a42 n42 c42] 24)).two
                have m42 := (Loc.new w22 rfl #[.int .i64 S3, .slice a42 n42 c42] 24).two
                go_wp2_with fail
                refine (braid9_same _ _ _ _ _ _ _ ts _ (ho40.alloc (.cells #[.int .i64 S3, .slice a42 n42 c42] 24)).row (ho42.alloc (.cells #[.int .i64 S3, .slice a42 n42 c42] 24)).row (by have := ho40.len; (try simp at this); omega)).mono ?_
                rintro e w23 ⟨rfl, hbw23⟩
                clear m38 m40 m42
                replace hL38 := (hL38.alloc (.cells #[.int .i64 S3, .slice a42 n42 c42] 24)).below hbw23 (hL38.alloc (.cells #[.int .i64 S3, .slice a42 n42 c42] 24)).lt
                replace l38 := hL38.two
                replace hL40 := (hL40.alloc (.cells #[.int .i64 S3, .slice a42 n42 c42] 24)).below hbw23 (hL40.alloc (.cells #[.int .i64 S3, .slice a42 n42 c42] 24)).lt
                replace l40 := hL40.two
                have hL42 := (Loc.new w22 rfl #[.int .i64 S3, .slice a42 n42 c42] 24).below hbw23 (Loc.new w22 rfl #[.int .i64 S3, .slice a42 n42 c42] 24).lt
                have l42 := hL42.two
                replace ho38 := (ho38.alloc (.cells #[.int .i64 S3, .slice a42 n42 c42] 24)).below hbw23
                replace ho40 := (ho40.alloc (.cells #[.int .i64 S3, .slice a42 n42 c42] 24)).below hbw23
                replace ho42 := (ho42.alloc (.cells #[.int .i64 S3, .slice a42 n42 c42] 24)).below hbw23
                replace hB := below_th (below_al hB (.cells #[.int .i64 S3, .slice a42 n42 c42] 24)) hbw23
                clear hL42 l42
                go_wp2_with fail
                refine (HC1.out _ _ _ _ ho38.row (by omega)).mono ?_
                rintro e w24 ⟨a44, n44, c44, rfl, ho44, hbw24⟩
                replace hL38 := hL38.below hbw24 hL38.lt
                replace l38 := hL38.two
                replace hL40 := hL40.below hbw24 hL40.lt
                replace l40 := hL40.two
                replace ho38 := ho38.below hbw24
                replace ho40 := ho40.below hbw24
                replace hB := below_th hB hbw24
                have hz40 : n40 ≤ 30 := by have := ho40.len; omega
                go_wp2_with fail
                refine (HC2.out _ _ _ _ ho40.row (by omega)).mono ?_
                rintro e w25 ⟨a46, n46, c46, rfl, ho46, hbw25⟩
                replace hL38 := hL38.below hbw25 hL38.lt
                replace l38 := hL38.two
                replace hL40 := hL40.below hbw25 hL40.lt
                replace l40 := hL40.two
                replace ho38 := ho38.below hbw25
                replace ho40 := ho40.below hbw25
                replace ho44 := ho44.below hbw25
                replace hB := below_th hB hbw25
                go_wp2_with fail
                refine (most9_any a44 n44 c44 L3 _ ho44.row (by have := ho44.len; omega) hbL3).mono ?_
                rintro e ww ⟨rfl, hww⟩
                subst hww
                go_wp2_with fail
                refine (most9_any a46 n46 c46 L3' _ ho46.row (by have := ho46.len; omega) hbL3').mono ?_
                rintro e ww ⟨rfl, hww⟩
                subst hww
                rw [HN3.out]
                have q9 : (grtL L3' == grtL L3') = true := by simp
                go_wp2
                go_ret
                exact ⟨rfl, hB⟩
end Go.Proofs.Ytehomfbehhlhmaa
