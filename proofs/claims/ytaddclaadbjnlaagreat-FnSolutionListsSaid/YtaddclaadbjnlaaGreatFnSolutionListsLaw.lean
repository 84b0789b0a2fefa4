/-
  The walk of the law of the lists of solutions: it answers true.
  No condition.
-/
import Derived.Test.YtaddclaadbjnlaaGreatPs21
import Derived.Test.YtaddclaadbjnlaaGreatPs49
import Derived.Test.YtaddclaadbjnlaaGreatPs38
import Derived.Test.YtaddclaadbjnlaaGreatPs50
import Derived.Test.YtaddclaadbjnlaaGreatPs40
namespace Go.Proofs.YtaddclaadbjnlaaGreat
set_option maxRecDepth 100000
set_option linter.unusedVariables false
set_option linter.unusedSimpArgs false
open Go.RowKit
set_option maxHeartbeats 64000000 in
theorem law_Sols (a : Option Addr) (m c : Nat) (xs : List Int) (w : World) (h : Bts w a m xs) (hn : m ≤ 9223372036854775807) :
    Calls Tryz.prog 4 #[.slice a m c] w fun e w' => e = .returned (.bool true) ∧ Below w.heap.size w w' := by
  go_enter Tryz.func4, Tryz.ntmps4
  go_wp2_with fail
  refine (big_any a m c _ hn).mono ?_
  rintro e w0 ⟨rfl, rfl⟩
  by_cases hbig : 4096 < m
  · have hd : decide (4096 < m) = true := by simpa using hbig
    rw [hd]
    go_wp2
    go_ret
    exact ⟨rfl, Below.refl _ _⟩
  · have hd : decide (4096 < m) = false := by simpa using hbig
    rw [hd]
    clear hd hbig
    go_wp2_with fail
    refine (DrawAllSolutions_ok a m c xs _ h hn).mono ?_
    rintro e w1 ⟨q, rfl, hq, hB1⟩
    have hq64 : I64 q := by
      simp at hq
      exact ⟨by omega, by omega⟩
    have HS := Lib.hid (fun w => spec_Asl_l q w hq64)
    have HI := Lib.hid (fun w => impl_Asl_l q w hq64)
    have HC := Lib.hid (fun w => impl_Sls_l q w hq64)
    have HY := Lib.hid (fun w => impl_Acy_l q w hq64)
    by_cases hv : 1 ≤ q ∧ q ≤ 3
    · obtain ⟨n, rfl⟩ : ∃ n : Nat, q = n := ⟨q.toNat, by omega⟩
      have n1 : 1 ≤ n := by omega
      have n3 : n ≤ 3 := by omega
      obtain ⟨L, C, T, F, HX⟩ : ∃ L C T F, Hid (SoLs n L C T F) := ⟨_, _, _, _, Lib.hid (soLs_of n1 n3)⟩
      have hs := HS.out; have hi := HI.out; have hc := HC.out; have hyy := HY.out
      rw [HX.out.asl] at hs hi
      rw [HX.out.sls] at hc
      rw [HX.out.acy] at hyy
      clear HS HI HC HY
      have HS := Lib.hid hs; have HI := Lib.hid hi; have HC := Lib.hid hc; have HY := Lib.hid hyy
      clear hs hi hc hyy hq hv hq64
      go_wp2_with fail
      refine (HI.out _).mono ?_
      rintro e w2 ⟨a2, K, c2, us2, rfl, ho2, hb2⟩
      have HKL := Lib.hid ho2.sbS.len
      have t2 := ho2.sbS
      have hB2 := below_th hB1 hb2
      clear ho2
      go_wp2_with fail
      refine (HS.out _).mono ?_
      rintro e w3 ⟨a3, K3, c3, us3, rfl, ho3, hb3⟩
      obtain rfl : K = K3 := by have := HKL.out; have := ho3.sbS.len; omega
      have t3 := ho3.sbS
      have t2 := t2.below hb3
      have hB3 := below_th hB2 hb3
      clear ho3
      have u0 : ((K : Int) != (K : Int)) = false := by simp
      go_wp2_with fail
      refine (HC.out _).mono ?_
      rintro e w4 ⟨rfl, hb4⟩
      have t3 := t3.below hb4
      have t2 := t2.below hb4
      have hB4 := below_th hB3 hb4
      go_wp2_with fail
      refine (HY.out _).mono ?_
      rintro e w7 ⟨a5, J, c5, us5, rfl, ho5, hb5⟩
      have hJL := ho5.tbS.len
      clear ho5
      have t3 := t3.below hb5
      have t2 := t2.below hb5
      have hB7 := below_th hB4 hb5
      have i0 : (0 : Int) ≤ (n : Int) := by omega
      have i4 : (n : Int) ≤ 3 := by omega
      have hKb : K ≤ 1000000 := by rw [HKL.out]; exact HX.out.len
      have hJb : J ≤ K := by
        rw [hJL, ← HX.out.even, HKL.out]; exact List.length_filter_le _ _
      have HJE : Hid ((L.filter (ivS n)).length = J) := Lib.hid (HX.out.even.trans hJL.symm)
      clear hJL
      have HF9 : Hid (∀ w, Calls Tryz.prog 15 #[.int .i64 n] w fun e w' => e = .returned (.int .i64 F) ∧ w' = w) := Lib.hid fun w => by
        have := fact9_any n w n1 (by omega)
        rw [HX.out.fac.1] at this; exact this
      have hFb : F ≤ 24 := HX.out.fac.2
      clear hb2 hb3 hb4 hb5 hB1 hB2 hB3 hB4
      go_wp2
      go_loopw [12, 13, 14, 15, 16, 17, 18, 19, 20] (fun tot ev i _ _ _ _ _ _ wr => ∃ j : Nat, j ≤ K ∧ i = .int .i64 j ∧ tot = .int .i64 ((((L.take j).map (gfS n)).sum : Nat) : Int) ∧ ev = .int .i64 ((((L.take j).filter (ivS n)).length : Nat) : Int) ∧ Below w.heap.size w wr ∧ Below w7.heap.size w7 wr) (fun _ _ i _ _ _ _ _ _ _ => K - (intOf i).toNat)
      case atStart => exact ⟨0, Nat.zero_le _, rfl, rfl, rfl, hB7, Below.refl _ _⟩
      case round =>
        clear hB7
        obtain ⟨j, hj, rfl, rfl, rfl, hq, hq6⟩ := hrel
        have hST := ssum_take_le (gfS n) L j
        rw [HX.out.sum] at hST
        have hEV := sfil_take_le (ivS n) L j
        by_cases hlt : j < K
        · have hjL : j < L.length := by have := HKL.out; omega
          have HTS := Lib.hid (ssum_take_succ (gfS n) L t2O hjL)
          have HES := Lib.hid (sfil_take_succ (ivS n) L t2O hjL)
          have hST2 := ssum_take_le (gfS n) L (j + 1)
          rw [HX.out.sum] at hST2
          obtain ⟨S, hS⟩ : ∃ S, ((L.take j).map (gfS n)).sum = S := ⟨_, rfl⟩
          rw [hS] at hST HTS ⊢
          clear hS
          obtain ⟨S2, HS2⟩ : ∃ S2, Hid (((L.take (j + 1)).map (gfS n)).sum = S2) := ⟨_, Lib.hid rfl⟩
          rw [HS2.out] at hST2 HTS
          obtain ⟨V1, hV1⟩ : ∃ V1, ((L.take j).filter (ivS n)).length = V1 := ⟨_, rfl⟩
          rw [hV1] at hEV HES ⊢
          clear hV1
          have hTB := HX.out.bd
          obtain ⟨V, rfl⟩ : ∃ V : World, V = wr := ⟨_, rfl⟩
          have t2a := (t2.below hq6).2
          have t3a := (t3.below hq6).2
          obtain ⟨b1, f1, nf1, cf1, e1, ne1, ce1, rfl, lt1, g1, g1', r1, l1, l1'⟩ := t2a j hlt
          obtain ⟨b2, f2, nf2, cf2, e2, ne2, ce2, rfl, lt2, g2, g2', r2, l2, l2'⟩ := t3a j hlt
          obtain ⟨hso, hnd, hsq, hpm⟩ := HX.out.mem j hjL
          obtain ⟨s, HSS⟩ : ∃ s, Hid (L.getD j t2O = s) := ⟨_, Lib.hid rfl⟩
          rw [HSS.out] at r1 r2 hso hnd hsq hpm HTS HES
          obtain rfl : n = nf1 := by have := r1.f.len; have := hsq.1.len; omega
          obtain rfl : n = ne1 := by have := r1.s.len; have := hsq.2.len; omega
          obtain rfl : n = nf2 := by have := r2.f.len; have := hsq.1.len; omega
          obtain rfl : n = ne2 := by have := r2.s.len; have := hsq.2.len; omega
          obtain ⟨rf1, rs1⟩ := r1
          obtain ⟨rf2, rs2⟩ := r2
          obtain ⟨k1, k2, HG⟩ := HX.out.gf s hsq
          have HSO := Lib.hid hso; have HND := Lib.hid hnd; have HPM := Lib.hid hpm; have HSQ := Lib.hid hsq
          obtain ⟨KK, HKK⟩ : ∃ KK, Hid (kpN (fun p s => rnS n s p) (prmL n) s = KK) := ⟨_, Lib.hid rfl⟩
          rw [HKK.out] at k1 k2 HG
          rw [HG] at HTS
          clear hso hnd hsq hpm t2a t3a HG l1 l1' l2 l2'
          have HAU : Hid (∀ w, Tbl w f1 n s.1 → Tbl w e1 n s.2 → Calls Tryz.prog 28 #[sAgg f1 n cf1 e1 n ce1] w fun e w' => (∃ a c, e = .returned (.tuple #[.slice a KK c, .int .i64 0])) ∧ Below w.heap.size w w') := Lib.hid fun w ha hb => by
            refine (SolutionAutomorphisms_ok n f1 e1 cf1 ce1 s.1 s.2 w (by omega) ha hb HPM.out).mono ?_
            rintro e w' ⟨Y, a, c, hY, hY24, rfl, hb⟩
            have hl := ya_lenS n1 (by omega) HSQ.out hY
            rw [HKK.out] at hl
            subst hl
            exact ⟨⟨a, c, rfl⟩, hb⟩
          have j1 : (0 : Int) ≤ (j : Int) := by omega
          have j2 : (j : Int) < (K : Int) := by omega
          have uj : ((j : Int) != (j : Int)) = false := by simp
          go_wp2_with fail
          refine (IsNondegenerate_ok n f1 e1 cf1 ce1 s.1 s.2 _ rf1 rs1 HPM.out).mono ?_
          rintro e v1 ⟨rfl, hv1⟩
          rw [HND.out]
          have g1a := (hv1.cell (p := ⟨b1, j * 2, none⟩) lt1).trans g1
          have g1a' := (hv1.cell (p := ⟨b1, j * 2 + 1, none⟩) lt1).trans g1'
          go_wp2_with fail
          refine (IsInvolutive_ok n f1 e1 cf1 ce1 s.1 s.2 _ (rf1.below hv1) (rs1.below hv1) HPM.out).mono ?_
          rintro e v2 ⟨rfl, hv2'⟩
          have hv2 := below_th hv1 hv2'
          have g1b := (hv2.cell (p := ⟨b1, j * 2, none⟩) lt1).trans g1
          have g1b' := (hv2.cell (p := ⟨b1, j * 2 + 1, none⟩) lt1).trans g1'
          clear g1a g1a' hv1 hv2'
          obtain ⟨bi, HBI⟩ : ∃ bi, Hid (ivlB n s.1 s.2 = bi) := ⟨_, Lib.hid rfl⟩
          rw [HBI.out]
          have hES := HES.out
          rw [show ivS n s = bi from HBI.out] at hES
          go_wp2_with fail
          refine (HAU.out _ (rf1.below hv2) (rs1.below hv2)).mono ?_
          rintro e v3 ⟨⟨aa, ca, rfl⟩, hv3'⟩
          have hv3 := below_th hv2 hv3'
          have g1c := (hv3.cell (p := ⟨b1, j * 2, none⟩) lt1).trans g1
          have g1c' := (hv3.cell (p := ⟨b1, j * 2 + 1, none⟩) lt1).trans g1'
          have g2c := (hv3.cell (p := ⟨b2, j * 2, none⟩) lt2).trans g2
          have g2c' := (hv3.cell (p := ⟨b2, j * 2 + 1, none⟩) lt2).trans g2'
          clear g1b g1b' hv2 hv3' g1 g1' g2 g2'
          have lt1b : b1 < v3.heap.size := Nat.lt_of_lt_of_le lt1 hv3.size
          have lt2b : b2 < v3.heap.size := Nat.lt_of_lt_of_le lt2 hv3.size
          have rf1b := rf1.below hv3
          have rs1b := rs1.below hv3
          have rf2b := rf2.below hv3
          have rs2b := rs2.below hv3
          have z1 : ¬ (KK : Int) = 0 := by omega
          have z2 : ((KK : Int) == 0) = false := by simpa using z1
          have z3 : Int.tdiv (F : Int) (KK : Int) = ((F / KK : Nat) : Int) := rfl
          have hle : F / KK ≤ 24 := Nat.le_trans (Nat.div_le_self _ _) hFb
          have HZ3 := Lib.hid z3
          obtain ⟨X, HXX⟩ : ∃ X, Hid (F / KK = X) := ⟨_, Lib.hid rfl⟩
          rw [HXX.out] at hle HZ3 HTS
          clear z3 HES
          have z4 := HZ3.out
          have hQ3 : Below w.heap.size w v3 := below_th hq hv3
          have hQ63 : Below w7.heap.size w7 v3 := below_th hq6 hv3
          go_wp2
          go_region_held3 (fun w' => w'.cell? ⟨b1, j * 2, none⟩ = some (.slice f1 n cf1) ∧ w'.cell? ⟨b1, j * 2 + 1, none⟩ = some (.slice e1 n ce1) ∧ w'.cell? ⟨b2, j * 2, none⟩ = some (.slice f2 n cf2) ∧ w'.cell? ⟨b2, j * 2 + 1, none⟩ = some (.slice e2 n ce2))
            (first | exact lY | exact lX | exact ⟨g1c, g1c', g2c, g2c'⟩ | go_keep)
            (first
              | (go_at_call 30; refine (solution9_same n f1 e1 f2 e2 cf1 ce1 cf2 ce2 s.1 s.2 _ (rf1b.below hb8) (rs1b.below hb8) (rf2b.below hb8) (rs2b.below hb8) (by omega)).mono ?_; rintro e w9 ⟨rfl, hb9⟩; have hb89 : Below v3.heap.size v3 w9 := below_th hb8 hb9; have lY : w9.cell? ⟨b1, j * 2, none⟩ = some (.slice f1 n cf1) ∧ w9.cell? ⟨b1, j * 2 + 1, none⟩ = some (.slice e1 n ce1) ∧ w9.cell? ⟨b2, j * 2, none⟩ = some (.slice f2 n cf2) ∧ w9.cell? ⟨b2, j * 2 + 1, none⟩ = some (.slice e2 n ce2) := ⟨(hb89.cell (p := ⟨b1, j * 2, none⟩) lt1b).trans g1c, (hb89.cell (p := ⟨b1, j * 2 + 1, none⟩) lt1b).trans g1c', (hb89.cell (p := ⟨b2, j * 2, none⟩) lt2b).trans g2c, (hb89.cell (p := ⟨b2, j * 2 + 1, none⟩) lt2b).trans g2c'⟩)
              | (go_at_call 29; refine (isSolution_any f1 n cf1 e1 n ce1 s.1 s.2 _ (rf1b.drewN 1) (rs1b.drewN 1) (by omega) (by omega)).mono ?_; rintro e w8 ⟨rfl, hb8'⟩; rw [HSO.out]; have hb8 : Below v3.heap.size v3 w8 := below_th (below_drewN (Below.refl _ _) 1) hb8'; clear hb8'; have lX : w8.cell? ⟨b1, j * 2, none⟩ = some (.slice f1 n cf1) ∧ w8.cell? ⟨b1, j * 2 + 1, none⟩ = some (.slice e1 n ce1) ∧ w8.cell? ⟨b2, j * 2, none⟩ = some (.slice f2 n cf2) ∧ w8.cell? ⟨b2, j * 2 + 1, none⟩ = some (.slice e2 n ce2) := ⟨(hb8.cell (p := ⟨b1, j * 2, none⟩) lt1b).trans g1c, (hb8.cell (p := ⟨b1, j * 2 + 1, none⟩) lt1b).trans g1c', (hb8.cell (p := ⟨b2, j * 2, none⟩) lt2b).trans g2c, (hb8.cell (p := ⟨b2, j * 2 + 1, none⟩) lt2b).trans g2c'⟩))
          all_goals
            have hQ9 : Below w.heap.size w w9 := below_th hQ3 hb89
            have hQ69 : Below w7.heap.size w7 w9 := below_th hQ63 hb89
            cases bi with
            | true =>
              go_wp2_with fail
              refine (HF9.out _).mono ?_
              rintro e v7 ⟨rfl, hv7⟩
              obtain rfl : w9 = v7 := hv7.symm
              go_wp2
              go_roundw
              case rel => exact ⟨j + 1, by omega, by go_num, by rw [HS2.out, HTS.out]; go_num, by rw [hES]; go_num, hQ9, hQ69⟩
              case measure => simp [intOf]; omega
            | false =>
              go_wp2_with fail
              refine (HF9.out _).mono ?_
              rintro e v7 ⟨rfl, hv7⟩
              obtain rfl : w9 = v7 := hv7.symm
              go_wp2
              go_roundw
              case rel => exact ⟨j + 1, by omega, by go_num, by rw [HS2.out, HTS.out]; go_num, by rw [hES]; go_num, hQ9, hQ69⟩
              case measure => simp [intOf]; omega
        · obtain rfl : j = K := by omega
          have HTT : Hid (((L.take j).map (gfS n)).sum = T) := Lib.hid (by rw [HKL.out, List.take_length]; exact HX.out.sum)
          have HEE : Hid (((L.take j).filter (ivS n)).length = J) := Lib.hid (by rw [HKL.out, List.take_length]; exact HJE.out)
          rw [HTT.out, HEE.out]
          have z5 : ((T : Int) != (T : Int)) = false := by simp
          have z6 : ((J : Int) != (J : Int)) = false := by simp
          clear HTT HEE hST hEV HJE
          obtain ⟨W, rfl⟩ : ∃ W : World, W = wr := ⟨_, rfl⟩
          clear t2 t3 HX HKL HF9 HS HI HC HY
          go_wp2_with fail
          refine (DrawPlaceOfSolution_ok a m c xs _ (h.below hq) hn).mono ?_
          rintro e x1 ⟨nr, ar, cr, f, ag, cg, g, rfl, hnr1, hnr, hTr, hTg, hx1⟩
          have hQ1 := below_th hq hx1
          have hA := Loc.new x1 rfl #[.slice ar nr cr, .slice ag nr cg] 53
          have lA0 := hA.two
          have hA0B := below_al (Below.refl x1.heap.size x1) (.cells #[.slice ar nr cr, .slice ag nr cg] 53)
          obtain ⟨x2, hx2⟩ : ∃ x2, x1.alloc (.cells #[.slice ar nr cr, .slice ag nr cg] 53) = x2 := ⟨_, rfl⟩
          rw [hx2] at hA lA0 hA0B
          have hT2 := hTr.below hA0B
          have hG2 := hTg.below hA0B
          have hQ2 := below_th hQ1 hA0B
          have nr64 : nr ≤ 9223372036854775807 := by omega
          go_wp2_with fail
          refine (impl_Pos_l ar nr cr f ag nr cg g _ ⟨hT2, hG2⟩ ⟨nr64, nr64⟩).mono ?_
          rintro e x3 ⟨rfl, hb3⟩
          have hA3 := hA.below hb3 hA.lt
          have lA3 := hA3.two
          have hT3 := hT2.below hb3
          have hG3 := hG2.below hb3
          have hQ3 := below_th hQ2 hb3
          clear lA0
          go_wp2_with fail
          refine (spec_Pos_l ar nr cr f ag nr cg g _ ⟨hT3, hG3⟩ ⟨nr64, nr64⟩).mono ?_
          rintro e x4 ⟨rfl, hb4⟩
          have hA4 := hA3.below hb4 hA3.lt
          have lA4 := hA4.two
          have hT4 := hT3.below hb4
          have hG4 := hG3.below hb4
          have hQ4 := below_th hQ3 hb4
          clear lA3
          have HLN := Lib.hid hTr.len
          by_cases hok : isSol f g = true ∧ ndF f g = true ∧ f.length ≤ 3
          · obtain ⟨hso, hnd, hl3⟩ := hok
            rw [posF_in hso hl3 hnd]
            have hn3 : nr ≤ 3 := by have := HLN.out; omega
            obtain ⟨r1, hsf, hsg, hpm, has, hp1, hLb, hp3, hpm2, p, hp⟩ := sol_place HLN.out.symm hso hn3 hnd
            obtain ⟨P, HP⟩ : ∃ P, Hid (posI (f, g) = P) := ⟨_, Lib.hid rfl⟩
            rw [HP.out] at hp1 hp3 hpm2 hp ⊢
            obtain ⟨M, HM⟩ : ∃ M, Hid (slrL nr = M) := ⟨_, Lib.hid rfl⟩
            rw [HM.out] at has hp1 hLb hp3 hpm2 hp
            have HA2 : Hid (∀ w, Calls Tryz.prog 22 #[.int .i64 nr] w (RetLSo w M 0)) := Lib.hid fun w => by
              have := impl_Asl_l nr w ⟨by omega, by omega⟩
              rw [has] at this; exact this
            have HSF := Lib.hid hsf; have HSG := Lib.hid hsg; have HPM := Lib.hid hpm
            have uP : ((P : Int) != (P : Int)) = false := by simp
            clear hso hnd hsf hsg hpm has
            go_wp2_with fail
            refine (HA2.out _).mono ?_
            rintro e x5 ⟨a5', K5, c5', us5', rfl, ho5, hb5⟩
            have hA5 := hA4.below hb5 hA4.lt
            have lA5 := hA5.two
            have hT5 := hT4.below hb5
            have hG5 := hG4.below hb5
            have hQ5 := below_th hQ4 hb5
            have hKM := ho5.sbS.len
            obtain ⟨b1, au, nu, cu, av, nv, cv, rfl, lt1, g1, g1', ru, l1, l1'⟩ := ho5.sbS.2 P (by omega)
            obtain ⟨ru, rv⟩ := ru
            clear ho5 lA4
            obtain ⟨U, HU⟩ : ∃ U, Hid (M.getD P t2O = U) := ⟨_, Lib.hid rfl⟩
            rw [HU.out] at ru rv hp3 hpm2 hp
            obtain rfl : nr = nu := by have := ru.len; have := hp3.1.len; omega
            obtain rfl : nr = nv := by have := rv.len; have := hp3.2.len; omega
            have HIS := Lib.hid hp; have HSU := Lib.hid hp3; have HPU := Lib.hid hpm2
            clear hp hpm2 hp3 l1 l1'
            have p1 : (0 : Int) ≤ (P : Int) := by omega
            have p2 : (P : Int) < (K5 : Int) := by omega
            have p3 : ¬ (P : Int) < 0 := by omega
            have p4 : ¬ (K5 : Int) ≤ (P : Int) := by omega
            have hcA := hA5.lt
            have hK5 : K5 ≤ 1000000 := by omega
            clear hKM hLb
            go_wp2
            go_region_held3 (fun w' => w'.cell? ⟨x1.heap.size, 0, none⟩ = some (.slice ar nr cr) ∧ w'.cell? ⟨x1.heap.size, 1, none⟩ = some (.slice ag nr cg) ∧ w'.cell? ⟨b1, P * 2, none⟩ = some (.slice au nr cu) ∧ w'.cell? ⟨b1, P * 2 + 1, none⟩ = some (.slice av nr cv))
              (first | exact lX | exact ⟨lA5.1, lA5.2.1, g1, g1'⟩ | go_keep)
              (first
                | (go_at_call 34; refine (SolutionIsomorphism_ok nr ar ag au av cr cg cu cv f g U.1 U.2 _ (by omega) (hT5.drewN 1) (hG5.drewN 1) (ru.drewN 1) (rv.drewN 1) HPM.out HPU.out).mono ?_; rintro e w8 ⟨hor, hb8'⟩; obtain ⟨ap, cp, q, hq8, rfl, hop⟩ : (∃ (a : Option Addr) (c : Nat) (p : List Int), IsoL nr [f, g] [U.1, U.2] p ∧ e = .returned (.tuple #[.slice a nr c, .int .i64 0]) ∧ Own w8 _ a nr c p) := hor.resolve_right (fun hno => hno.1 _ HIS.out); have hb8 : Below x5.heap.size x5 w8 := below_th (below_drewN (Below.refl _ _) 1) hb8'; clear hb8'; have lX : w8.cell? ⟨x1.heap.size, 0, none⟩ = some (.slice ar nr cr) ∧ w8.cell? ⟨x1.heap.size, 1, none⟩ = some (.slice ag nr cg) ∧ w8.cell? ⟨b1, P * 2, none⟩ = some (.slice au nr cu) ∧ w8.cell? ⟨b1, P * 2 + 1, none⟩ = some (.slice av nr cv) := ⟨(hb8.cell (p := ⟨x1.heap.size, 0, none⟩) hcA).trans lA5.1, (hb8.cell (p := ⟨x1.heap.size, 1, none⟩) hcA).trans lA5.2.1, (hb8.cell (p := ⟨b1, P * 2, none⟩) lt1).trans g1, (hb8.cell (p := ⟨b1, P * 2 + 1, none⟩) lt1).trans g1'⟩))
            all_goals
              obtain ⟨lXa, lXa', lXb, lXb'⟩ := lX
              have hT8 := hT5.below hb8
              have hG8 := hG5.below hb8
              have ru8 := ru.below hb8
              have rv8 := rv.below hb8
              have hp8 := hop.row
              obtain ⟨hIP, hrn, hrn'⟩ := (isoS_rn HSF.out HSG.out HSU.out.1 HSU.out.2).1 hq8
              have HIP := Lib.hid hIP; have HRN := Lib.hid hrn; have HRN' := Lib.hid hrn'
              have hQ8 := below_th hQ5 hb8
              have hcA8 : x1.heap.size < w8.heap.size := Nat.lt_of_lt_of_le hcA hb8.size
              have lt18 : b1 < w8.heap.size := Nat.lt_of_lt_of_le lt1 hb8.size
              clear hIP hrn hrn' hq8
              go_wp2
              go_region_held3 (fun w' => w'.cell? ⟨x1.heap.size, 0, none⟩ = some (.slice ar nr cr) ∧ w'.cell? ⟨x1.heap.size, 1, none⟩ = some (.slice ag nr cg) ∧ w'.cell? ⟨b1, P * 2, none⟩ = some (.slice au nr cu) ∧ w'.cell? ⟨b1, P * 2 + 1, none⟩ = some (.slice av nr cv))
                (first | exact lY3 | exact lY2 | exact lY1 | exact lY0 | exact ⟨lXa, lXa', lXb, lXb'⟩ | go_keep)
                (first
                  | (go_at_call 13; have _t := hc2; clear _t; refine (same9_same a9 av nr nr c9 cv U.2 _ (HRN'.out ▸ ho9.tbl) (rv8.below hc2) (by omega)).mono ?_; rintro e y3 ⟨rfl, hy3⟩; have hc3 : Below w8.heap.size w8 y3 := below_th hc2 hy3; have lY3 : y3.cell? ⟨x1.heap.size, 0, none⟩ = some (.slice ar nr cr) ∧ y3.cell? ⟨x1.heap.size, 1, none⟩ = some (.slice ag nr cg) ∧ y3.cell? ⟨b1, P * 2, none⟩ = some (.slice au nr cu) ∧ y3.cell? ⟨b1, P * 2 + 1, none⟩ = some (.slice av nr cv) := ⟨(hc3.cell (p := ⟨x1.heap.size, 0, none⟩) hcA8).trans lXa, (hc3.cell (p := ⟨x1.heap.size, 1, none⟩) hcA8).trans lXa', (hc3.cell (p := ⟨b1, P * 2, none⟩) lt18).trans lXb, (hc3.cell (p := ⟨b1, P * 2 + 1, none⟩) lt18).trans lXb'⟩)
                  | (go_at_call 20; have _t := hc1; clear _t; refine (image9_any nr ag ap cg cp g q _ (hG8.below hc1) (hp8.below hc1) HSG.out HIP.out (by omega) (by omega)).mono ?_; rintro e y2 ⟨a9, c9, vs9, rfl, ho9, hc2'⟩; have hc2 : Below w8.heap.size w8 y2 := below_th hc1 hc2'; clear hc2'; have lY2 : y2.cell? ⟨x1.heap.size, 0, none⟩ = some (.slice ar nr cr) ∧ y2.cell? ⟨x1.heap.size, 1, none⟩ = some (.slice ag nr cg) ∧ y2.cell? ⟨b1, P * 2, none⟩ = some (.slice au nr cu) ∧ y2.cell? ⟨b1, P * 2 + 1, none⟩ = some (.slice av nr cv) := ⟨(hc2.cell (p := ⟨x1.heap.size, 0, none⟩) hcA8).trans lXa, (hc2.cell (p := ⟨x1.heap.size, 1, none⟩) hcA8).trans lXa', (hc2.cell (p := ⟨b1, P * 2, none⟩) lt18).trans lXb, (hc2.cell (p := ⟨b1, P * 2 + 1, none⟩) lt18).trans lXb'⟩)
                  | (go_at_call 13; have _t := hc0; clear _t; refine (same9_same a8 au nr nr c8 cu U.1 _ (HRN.out ▸ ho8.tbl) (ru8.below hc0) (by omega)).mono ?_; rintro e y1 ⟨rfl, hy1⟩; have hc1 : Below w8.heap.size w8 y1 := below_th hc0 hy1; have lY1 : y1.cell? ⟨x1.heap.size, 0, none⟩ = some (.slice ar nr cr) ∧ y1.cell? ⟨x1.heap.size, 1, none⟩ = some (.slice ag nr cg) ∧ y1.cell? ⟨b1, P * 2, none⟩ = some (.slice au nr cu) ∧ y1.cell? ⟨b1, P * 2 + 1, none⟩ = some (.slice av nr cv) := ⟨(hc1.cell (p := ⟨x1.heap.size, 0, none⟩) hcA8).trans lXa, (hc1.cell (p := ⟨x1.heap.size, 1, none⟩) hcA8).trans lXa', (hc1.cell (p := ⟨b1, P * 2, none⟩) lt18).trans lXb, (hc1.cell (p := ⟨b1, P * 2 + 1, none⟩) lt18).trans lXb'⟩)
                  | (go_at_call 20; refine (image9_any nr ar ap cr cp f q _ (hT8.drewN 1) (hp8.drewN 1) HSF.out HIP.out (by omega) (by omega)).mono ?_; rintro e y0 ⟨a8, c8, vs8, rfl, ho8, hc0'⟩; have hc0 : Below w8.heap.size w8 y0 := below_th (below_drewN (Below.refl _ _) 1) hc0'; clear hc0'; have lY0 : y0.cell? ⟨x1.heap.size, 0, none⟩ = some (.slice ar nr cr) ∧ y0.cell? ⟨x1.heap.size, 1, none⟩ = some (.slice ag nr cg) ∧ y0.cell? ⟨b1, P * 2, none⟩ = some (.slice au nr cu) ∧ y0.cell? ⟨b1, P * 2 + 1, none⟩ = some (.slice av nr cv) := ⟨(hc0.cell (p := ⟨x1.heap.size, 0, none⟩) hcA8).trans lXa, (hc0.cell (p := ⟨x1.heap.size, 1, none⟩) hcA8).trans lXa', (hc0.cell (p := ⟨b1, P * 2, none⟩) lt18).trans lXb, (hc0.cell (p := ⟨b1, P * 2 + 1, none⟩) lt18).trans lXb'⟩))
              all_goals
                have hQ9 := below_th hQ8 hc3
                go_wp2
                go_ret
                exact ⟨rfl, hQ9⟩
          · obtain ⟨pv, pc, hpv, hpc⟩ : ∃ (pv pc : Int), posF f g = (pv, pc) ∧ pc ≠ 0 := by
              by_cases hso : isSol f g = true
              · by_cases h3 : f.length ≤ 3
                · exact ⟨0, 5, posF_deg hso h3 (by cases e : ndF f g with | false => rfl | true => exact absurd ⟨hso, e, h3⟩ hok), by omega⟩
                · exact ⟨0, 3, posF_big hso h3, by omega⟩
              · exact ⟨0, 1, posF_no (by simpa using hso), by omega⟩
            rw [hpv]
            have y1 : (pc != 0) = true := by simpa using hpc
            have y2 : (pc != pc) = false := by simp
            have y3 : (pv != pv) = false := by simp
            clear hok hpv
            go_wp2
            go_ret
            exact ⟨rfl, hQ4⟩
    · have e1 : aslF q = ([], 2) := by unfold aslF; rw [if_neg hv]
      have e2 : slsF q = (0, 2) := by unfold slsF; rw [if_neg hv]
      have hs := HS.out; have hi := HI.out; have hc := HC.out
      rw [e1] at hs hi
      rw [e2] at hc
      clear HS HI HC
      have HS := Lib.hid hs; have HI := Lib.hid hi; have HC := Lib.hid hc
      clear hs hi hc e1 e2
      go_wp2_with fail
      refine (HI.out _).mono ?_
      rintro e w2 ⟨a2, K, c2, us2, rfl, ho2, hb2⟩
      obtain rfl : K = 0 := ho2.sbS.len
      have hB2 := below_th hB1 hb2
      clear ho2
      go_wp2_with fail
      refine (HS.out _).mono ?_
      rintro e w3 ⟨a3, K3, c3, us3, rfl, ho3, hb3⟩
      obtain rfl : K3 = 0 := ho3.sbS.len
      have hB3 := below_th hB2 hb3
      clear ho3
      go_wp2_with fail
      refine (HC.out _).mono ?_
      rintro e w4 ⟨rfl, hb4⟩
      have hB4 := below_th hB3 hb4
      obtain ⟨Y5, C5, HY5⟩ : ∃ Y5 C5, Hid (∀ w, Calls Tryz.prog 25 #[.int .i64 q] w (RetLCy w Y5 C5)) := ⟨_, _, HY⟩
      go_wp2_with fail
      refine (HY5.out _).mono ?_
      rintro e w5 ⟨a5, K5, c5, us5, rfl, ho5, hb5⟩
      have hB5 := below_th hB4 hb5
      clear ho5
      go_wp2
      go_ret
      exact ⟨rfl, hB5⟩
end Go.Proofs.YtaddclaadbjnlaaGreat
