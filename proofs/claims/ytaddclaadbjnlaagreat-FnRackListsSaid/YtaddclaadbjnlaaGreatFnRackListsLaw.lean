/-
  The walk of the law of the lists of racks: it answers true.
  No condition.
-/
import Derived.Test.YtaddclaadbjnlaaGreatPr36
import Derived.Test.YtaddclaadbjnlaaGreatPr37
import Derived.Test.YtaddclaadbjnlaaGreatPr29
namespace Go.Proofs.YtaddclaadbjnlaaGreat
set_option maxRecDepth 100000
set_option linter.unusedVariables false
set_option linter.unusedSimpArgs false
open Go.RowKit
set_option maxHeartbeats 64000000 in
theorem law_Rls (a : Option Addr) (m c : Nat) (xs : List Int) (w : World) (h : Bts w a m xs) (hn : m ≤ 9223372036854775807) :
    Calls Tryz.prog 3 #[.slice a m c] w fun e w' => e = .returned (.bool true) ∧ Below w.heap.size w w' := by
  go_enter Tryz.func3, Tryz.ntmps3
  go_wp2_with fail
  refine (big_any a m c _ hn).mono ?_
  rintro e w0 ⟨rfl, rfl⟩
  by_cases hbig : 4096 < m
  · have hd : decide (4096 < m) = true := by simpa using hbig
    rw [hd]
    go_wp2
    go_ret
    exact ⟨rfl, Below.refl _ _⟩
  · have hd : decide (4096 < m) = false := by simpa using hbig
    rw [hd]
    clear hd hbig
    go_wp2_with fail
    refine (DrawAllRacks_ok a m c xs _ h hn).mono ?_
    rintro e w1 ⟨q, rfl, hq, hB1⟩
    have hq64 : I64 q := by
      simp at hq
      rcases hq with h | h | h | h | h | h <;> (subst h; exact ⟨by omega, by omega⟩)
    have HS := Lib.hid (fun w => spec_Ark_l q w hq64)
    have HI := Lib.hid (fun w => impl_Ark_l q w hq64)
    have HC := Lib.hid (fun w => impl_Crk_l q w hq64)
    have HQ := Lib.hid (fun w => impl_Aqd_l q w hq64)
    by_cases hv : 1 ≤ q ∧ q ≤ 4
    · obtain ⟨n, rfl⟩ : ∃ n : Nat, q = n := ⟨q.toNat, by omega⟩
      have n1 : 1 ≤ n := by omega
      have n4 : n ≤ 4 := by omega
      obtain ⟨L, Q, T, F, HX⟩ : ∃ L Q T F, Hid (RkLs n L Q T F) := ⟨_, _, _, _, Lib.hid (rkLs_of n1 n4)⟩
      have hs := HS.out; have hi := HI.out; have hc := HC.out; have hqq := HQ.out
      rw [HX.out.ark] at hs hi
      rw [HX.out.crk] at hc
      rw [HX.out.aqd] at hqq
      clear HS HI HC HQ
      have HS := Lib.hid hs; have HI := Lib.hid hi; have HC := Lib.hid hc; have HQ := Lib.hid hqq
      clear hs hi hc hqq hq hv hq64
      go_wp2_with fail
      refine (HI.out _).mono ?_
      rintro e w2 ⟨a2, K, c2, us2, rfl, ho2, hb2⟩
      have HKL := Lib.hid ho2.tbS.len
      have t2 := ho2.tbS
      have hB2 := below_th hB1 hb2
      clear ho2
      go_wp2_with fail
      refine (HS.out _).mono ?_
      rintro e w3 ⟨a3, K3, c3, us3, rfl, ho3, hb3⟩
      obtain rfl : K = K3 := by have := HKL.out; have := ho3.tbS.len; omega
      have t3 := ho3.tbS
      have t2 := t2.below hb3
      have hB3 := below_th hB2 hb3
      clear ho3
      have u0 : ((K : Int) != (K : Int)) = false := by simp
      go_wp2_with fail
      refine (HQ.out _).mono ?_
      rintro e w4 ⟨a4, J, c4, us4, rfl, ho4, hb4⟩
      have HJL := Lib.hid ho4.tbS.len
      have t4 := ho4.tbS
      have t3 := t3.below hb4
      have t2 := t2.below hb4
      have hB4 := below_th hB3 hb4
      clear ho4
      go_wp2_with fail
      refine (HC.out _).mono ?_
      rintro e w5 ⟨rfl, hb5⟩
      have t4 := t4.below hb5
      have t3 := t3.below hb5
      have t2 := t2.below hb5
      have hB5 := below_th hB4 hb5
      obtain ⟨w6, hw6⟩ : ∃ w6, w5.alloc (.cells #[.int .i64 0, .int .i64 1, .int .i64 2, .int .i64 6, .int .i64 19] 3) = w6 := ⟨_, rfl⟩
      obtain ⟨w7, hw7⟩ : ∃ w7, w6.alloc (.cells #[.int .i64 0, .int .i64 1, .int .i64 1, .int .i64 3, .int .i64 7] 3) = w7 := ⟨_, rfl⟩
      have hb6 : Below w5.heap.size w5 w6 := by rw [← hw6]; exact below_al (Below.refl _ _) _
      have hb67 : Below w6.heap.size w6 w7 := by rw [← hw7]; exact below_al (Below.refl _ _) _
      have hb7 : Below w5.heap.size w5 w7 := below_th hb6 hb67
      have hs6 : w6.heap.size = w5.heap.size + 1 := by rw [← hw6]; exact size_alloc _ _
      have hcc : w7.cell? ⟨w5.heap.size, n, none⟩ = some (.int .i64 K) := by
        rw [hb67.cell (p := ⟨w5.heap.size, n, none⟩) (by show w5.heap.size < w6.heap.size; omega), ← hw6]
        refine (Loc.new w5 rfl _ _).cell n ?_
        have h1 := HX.out.len
        rw [← HKL.out] at h1
        have hq : n = 1 ∨ n = 2 ∨ n = 3 ∨ n = 4 := by omega
        rcases hq with rfl | rfl | rfl | rfl <;> (simp at h1; subst h1; rfl)
      have hcq : w7.cell? ⟨w5.heap.size + 1, n, none⟩ = some (.int .i64 J) := by
        rw [← hs6, ← hw7]
        refine (Loc.new w6 rfl _ _).cell n ?_
        have h1 := HX.out.qen
        rw [← HJL.out] at h1
        have hq : n = 1 ∨ n = 2 ∨ n = 3 ∨ n = 4 := by omega
        rcases hq with rfl | rfl | rfl | rfl <;> (simp at h1; subst h1; rfl)
      have t4 := t4.below hb7
      have t3 := t3.below hb7
      have t2 := t2.below hb7
      have hB7 := below_th hB5 hb7
      have i0 : (0 : Int) ≤ (n : Int) := by omega
      have i5 : (n : Int) < 5 := by omega
      have hK23 : K ≤ 23 := by
        have h1 := HX.out.len
        rw [← HKL.out] at h1
        have hq : n = 1 ∨ n = 2 ∨ n = 3 ∨ n = 4 := by omega
        rcases hq with rfl | rfl | rfl | rfl <;> (simp at h1; omega)
      have hJ23 : J ≤ 23 := by
        have h1 := HX.out.qen
        rw [← HJL.out] at h1
        have hq : n = 1 ∨ n = 2 ∨ n = 3 ∨ n = 4 := by omega
        rcases hq with rfl | rfl | rfl | rfl <;> (simp at h1; omega)
      have HF9 : Hid (∀ w, Calls Tryz.prog 15 #[.int .i64 n] w fun e w' => e = .returned (.int .i64 F) ∧ w' = w) := Lib.hid fun w => by
        have := fact9_any n w n1 n4
        rw [HX.out.fac.1] at this; exact this
      have hFb : F ≤ 24 := HX.out.fac.2
      have uJ : ((J : Int) != (J : Int)) = false := by simp
      clear hb2 hb3 hb4 hb5 hb6 hb67 hb7 hB1 hB2 hB3 hB4 hB5
      go_wp2
      go_loopw [14, 15, 16, 17, 18, 19] (fun tot i _ _ _ _ wr => ∃ j : Nat, j ≤ K ∧ i = .int .i64 j ∧ tot = .int .i64 ((((L.take j).map (gfN n)).sum : Nat) : Int) ∧ Below w.heap.size w wr ∧ Below w7.heap.size w7 wr) (fun _ i _ _ _ _ _ => K - (intOf i).toNat)
      case atStart => exact ⟨0, Nat.zero_le _, rfl, rfl, hB7, Below.refl _ _⟩
      case round =>
        clear hB7 hcc hcq hw6 hw7 hs6
        obtain ⟨j, hj, rfl, rfl, hq, hq6⟩ := hrel
        have hST := rsum_take_le (gfN n) L j
        rw [HX.out.sum] at hST
        by_cases hlt : j < K
        · have HTS := Lib.hid (rsum_take_succ (gfN n) L [] (k := j) (by have := HKL.out; omega))
          have hST2 := rsum_take_le (gfN n) L (j + 1)
          rw [HX.out.sum] at hST2
          obtain ⟨S, hS⟩ : ∃ S, ((L.take j).map (gfN n)).sum = S := ⟨_, rfl⟩
          rw [hS] at hST HTS ⊢
          have HSX := Lib.hid hS
          clear hS
          obtain ⟨S2, HS2⟩ : ∃ S2, Hid (((L.take (j + 1)).map (gfN n)).sum = S2) := ⟨_, Lib.hid rfl⟩
          rw [HS2.out] at hST2 HTS
          have hTB := HX.out.bd
          obtain ⟨V, rfl⟩ : ∃ V : World, V = wr := ⟨_, rfl⟩
          have t2a := (t2.below hq6).2
          have t3a := (t3.below hq6).2
          obtain ⟨b1, o1, at1, nt1, ct1, rfl, lt1, g1, r1, l1⟩ := t2a j hlt
          obtain ⟨b2, o2, at2, nt2, ct2, rfl, lt2, g2, r2, l2⟩ := t3a j hlt
          obtain ⟨hrk, hln, hpo⟩ := HX.out.mem j (by have := HKL.out; omega)
          obtain ⟨t, HTT⟩ : ∃ t, Hid (L.getD j [] = t) := ⟨_, Lib.hid rfl⟩
          rw [HTT.out] at r1 r2 hrk hln hpo HTS
          obtain rfl : n = nt1 := by have := r1.len; omega
          obtain rfl : n = nt2 := by have := r2.len; omega
          obtain ⟨k1, k2, HG⟩ := HX.out.gf t hrk hln
          have HRK := Lib.hid hrk
          have HSQ : Hid (Sq n t) := Lib.hid (by have := (isRk_sq hrk).2; rwa [hln] at this)
          have HPO : Hid (∀ w, Tbl w at1 n t → Calls Tryz.prog 12 #[rAgg at1 n ct1] w (RetI w (j : Int) 0)) := Lib.hid fun w hw => by
            have := impl_Por_l at1 n ct1 t w hw (by omega)
            rw [hpo] at this; exact this
          obtain ⟨KK, HKK⟩ : ∃ KK, Hid (kpN (fun p t => rnL n t p) (prmL n) t = KK) := ⟨_, Lib.hid rfl⟩
          rw [HKK.out] at k1 k2 HG
          rw [HG] at HTS
          clear hrk hln hpo t2a t3a HG
          have HCA : Hid (∀ w, Tbl w at1 n t → Calls Tryz.prog 11 #[rAgg at1 n ct1] w (RetI w (KK : Int) 0)) := Lib.hid fun w hw => by
            refine (CountRackAutomorphisms_ok n at1 ct1 t w (by omega) hw HRK.out).mono ?_
            rintro e w' ⟨Y, hY, rfl, hb⟩
            have hl := ya_len n1 n4 HSQ.out hY
            rw [HKK.out] at hl
            rw [hl, show wrap64 ((KK : Nat) : Int) = KK by unfold wrap64; omega]
            exact ⟨rfl, hb⟩
          have j1 : (0 : Int) ≤ (j : Int) := by omega
          have j2 : (j : Int) < (K : Int) := by omega
          have uj : ((j : Int) != (j : Int)) = false := by simp
          go_wp2_with fail
          refine (HCA.out _ r1).mono ?_
          rintro e v1 ⟨rfl, hv1⟩
          have g1a := (hv1.cell (p := ⟨b1, o1 + j, none⟩) lt1).trans g1
          have r1a := r1.below hv1
          go_wp2_with fail
          refine (HPO.out _ r1a).mono ?_
          rintro e v2 ⟨rfl, hv2'⟩
          have hv2 := below_th hv1 hv2'
          have r1b := r1.below hv2
          have r2b := r2.below hv2
          have g1b := (hv2.cell (p := ⟨b1, o1 + j, none⟩) lt1).trans g1
          have g2b := (hv2.cell (p := ⟨b2, o2 + j, none⟩) lt2).trans g2
          clear g1a r1a hv1 hv2' g1 g2
          have lt1b : b1 < v2.heap.size := Nat.lt_of_lt_of_le lt1 hv2.size
          have lt2b : b2 < v2.heap.size := Nat.lt_of_lt_of_le lt2 hv2.size
          have z1 : ¬ (KK : Int) = 0 := by omega
          have z2 : ((KK : Int) == 0) = false := by simpa using z1
          have z3 : Int.tdiv (F : Int) (KK : Int) = ((F / KK : Nat) : Int) := rfl
          have hle : F / KK ≤ 24 := Nat.le_trans (Nat.div_le_self _ _) hFb
          have z6 : ¬ (KK : Int) < 1 := by omega
          have z7 : decide ((KK : Int) < 1) = false := decide_eq_false z6
          have HZ3 := Lib.hid z3
          obtain ⟨X, HXX⟩ : ∃ X, Hid (F / KK = X) := ⟨_, Lib.hid rfl⟩
          rw [HXX.out] at hle HZ3 HTS
          clear z3
          have z4 := HZ3.out
          go_wp2
          go_region_held3 (fun w' => w'.cell? ⟨b1, o1 + j, none⟩ = some (.slice at1 n ct1) ∧ w'.cell? ⟨b2, o2 + j, none⟩ = some (.slice at2 n ct2))
            (first | exact lY | exact lX | exact ⟨g1b, g2b⟩ | go_keep)
            (first
              | (go_at_call 13; refine (same9_same at1 at2 n n ct1 ct2 t _ (r1b.drewN 1) (r2b.drewN 1) (by omega)).mono ?_; rintro e w8 ⟨rfl, hb8'⟩; have hb8 : Below v2.heap.size v2 w8 := below_th (below_drewN (Below.refl _ _) 1) hb8'; clear hb8'; have lX : w8.cell? ⟨b1, o1 + j, none⟩ = some (.slice at1 n ct1) ∧ w8.cell? ⟨b2, o2 + j, none⟩ = some (.slice at2 n ct2) := ⟨(hb8.cell (p := ⟨b1, o1 + j, none⟩) lt1b).trans g1b, (hb8.cell (p := ⟨b2, o2 + j, none⟩) lt2b).trans g2b⟩)
              | (go_at_call 14; refine (isRack_any at1 n ct1 t _ (r1b.below hb8) (by omega)).mono ?_; rintro e w9 ⟨rfl, hb9⟩; rw [HRK.out]; have hb89 : Below v2.heap.size v2 w9 := below_th hb8 hb9; have lY : w9.cell? ⟨b1, o1 + j, none⟩ = some (.slice at1 n ct1) ∧ w9.cell? ⟨b2, o2 + j, none⟩ = some (.slice at2 n ct2) := ⟨(hb89.cell (p := ⟨b1, o1 + j, none⟩) lt1b).trans g1b, (hb89.cell (p := ⟨b2, o2 + j, none⟩) lt2b).trans g2b⟩))
          all_goals
            have hQ9 : Below w.heap.size w w9 := below_th (below_th hq hv2) hb89
            have hQ69 : Below w7.heap.size w7 w9 := below_th (below_th hq6 hv2) hb89
            go_wp2_with fail
            refine (HF9.out _).mono ?_
            rintro e v7 ⟨rfl, hv7⟩
            obtain rfl : w9 = v7 := hv7.symm
            go_wp2
            go_roundw
            case rel => exact ⟨j + 1, by omega, by go_num, by rw [HS2.out, HTS.out]; go_num, hQ9, hQ69⟩
            case measure => simp [intOf]; omega
        · obtain rfl : j = K := by omega
          have HTT : Hid (((L.take j).map (gfN n)).sum = T) := Lib.hid (by rw [HKL.out, List.take_length]; exact HX.out.sum)
          rw [HTT.out]
          have z5 : ((T : Int) != (T : Int)) = false := by simp
          clear HTT hST
          obtain ⟨V, rfl⟩ : ∃ V : World, V = wr := ⟨_, rfl⟩
          go_wp2
          go_loopw [20, 21, 22] (fun i _ _ wr => ∃ k : Nat, k ≤ J ∧ i = .int .i64 k ∧ Below w.heap.size w wr ∧ Below w7.heap.size w7 wr) (fun i _ _ _ => J - (intOf i).toNat)
          case atStart => exact ⟨0, Nat.zero_le _, rfl, hq, hq6⟩
          case round =>
            clear hq hq6
            obtain ⟨k, hk, rfl, hq, hq6⟩ := hrel
            obtain ⟨W, rfl⟩ : ∃ W : World, W = wr := ⟨_, rfl⟩
            by_cases hltk : k < J
            · have t4a := (t4.below hq6).2
              obtain ⟨b1, o1, at1, nt1, ct1, rfl, lt1, g1, r1, l1⟩ := t4a k hltk
              obtain ⟨hrk, hln, hqd⟩ := HX.out.qem k (by have := HJL.out; omega)
              obtain ⟨t, HTT⟩ : ∃ t, Hid (Q.getD k [] = t) := ⟨_, Lib.hid rfl⟩
              rw [HTT.out] at r1 hrk hln hqd
              obtain rfl : n = nt1 := by have := r1.len; omega
              have HQD : Hid (∀ w, Tbl w at1 n t → Calls Tryz.prog 16 #[rAgg at1 n ct1] w fun e w' => e = .returned (.tuple #[.bool true, .int .i64 0]) ∧ Below w.heap.size w w') := Lib.hid fun w hw => by
                have := isQuandle_ok at1 n ct1 t w hw hrk
                rw [hqd] at this; exact this
              clear hrk hln hqd t4a
              have k1 : (0 : Int) ≤ (k : Int) := by omega
              have k2 : (k : Int) < (J : Int) := by omega
              go_wp2_with fail
              refine (HQD.out _ r1).mono ?_
              rintro e v1 ⟨rfl, hv1⟩
              go_wp2
              go_roundw
              case rel => exact ⟨k + 1, by omega, by go_num, below_th hq hv1, below_th hq6 hv1⟩
              case measure => simp [intOf]; omega
            · obtain rfl : k = J := by omega
              clear t2 t3 t4 HX HKL HJL HF9 HS HI HC HQ
              go_wp2_with fail
              refine (DrawPlaceOfRack_ok a m c xs _ (h.below hq) hn).mono ?_
              rintro e x1 ⟨ar, nr, cr, R, rfl, hnr, hTr, hx1⟩
              have hQ1 := below_th hq hx1
              have hA := Loc.new x1 rfl #[.slice ar nr cr] 34
              have lA0 := hA.one
              have hA0B := below_al (Below.refl x1.heap.size x1) (.cells #[.slice ar nr cr] 34)
              obtain ⟨x2, hx2⟩ : ∃ x2, x1.alloc (.cells #[.slice ar nr cr] 34) = x2 := ⟨_, rfl⟩
              rw [hx2] at hA lA0 hA0B
              have hT2 := hTr.below hA0B
              have hQ2 := below_th hQ1 hA0B
              go_wp2_with fail
              refine (impl_Por_l ar nr cr R _ hT2 (by omega)).mono ?_
              rintro e x3 ⟨rfl, hb3⟩
              have hA3 := hA.below hb3 hA.lt
              have lA3 := hA3.one
              have hT3 := hT2.below hb3
              have hQ3 := below_th hQ2 hb3
              have hx23 := hb3.size
              clear lA0
              go_wp2_with fail
              refine (spec_Por_l ar nr cr R _ hT3 (by omega)).mono ?_
              rintro e x4 ⟨rfl, hb4⟩
              have hA4 := hA3.below hb4 hA3.lt
              have lA4 := hA4.one
              have hT4 := hT3.below hb4
              have hQ4 := below_th hQ3 hb4
              clear lA3
              have HLN := Lib.hid hTr.len
              by_cases hok : isRk R = true ∧ R.length ≤ 4
              · obtain ⟨hrk, hl4⟩ := hok
                rw [porF_in hrk hl4]
                have hn4 : nr ≤ 4 := by have := HLN.out; omega
                obtain ⟨r1, hsq, hp1, hp2, hp3, p, hp⟩ := rkl_isoN hrk HLN.out.symm hn4
                obtain ⟨P, HP⟩ : ∃ P, Hid (porI R = P) := ⟨_, Lib.hid rfl⟩
                rw [HP.out] at hp1 hp2 hp3 hp ⊢
                obtain ⟨M, HM⟩ : ∃ M, Hid (rkLst nr = M) := ⟨_, Lib.hid rfl⟩
                rw [HM.out] at hp1 hp2 hp3 hp
                have HA2 : Hid (∀ w, Calls Tryz.prog 7 #[.int .i64 nr] w (RetLRk w M 0)) := Lib.hid fun w => by
                  have := impl_Ark_l nr w ⟨by omega, by omega⟩
                  unfold arkF at this
                  rw [if_pos (by omega), Int.toNat_natCast] at this
                  rw [← HM.out]; exact this
                have HRK := Lib.hid hrk; have HSQ := Lib.hid hsq
                have uP : ((P : Int) != (P : Int)) = false := by simp
                clear hrk hsq
                go_wp2_with fail
                refine (HA2.out _).mono ?_
                rintro e x5 ⟨a5, K5, c5, us5, rfl, ho5, hb5⟩
                have hA5 := hA4.below hb5 hA4.lt
                have lA5 := hA5.one
                have hT5 := hT4.below hb5
                have hQ5 := below_th hQ4 hb5
                have hKM := ho5.tbS.len
                obtain ⟨b1, o1, au, nu, cu, rfl, lt1, g1, ru, l1⟩ := ho5.tbS.2 P (by omega)
                clear ho5 lA4
                obtain ⟨U, HU⟩ : ∃ U, Hid (M.getD P [] = U) := ⟨_, Lib.hid rfl⟩
                rw [HU.out] at ru hp2 hp3 hp
                obtain rfl : nr = nu := by have := ru.len; have := hp3.len; omega
                have HRU := Lib.hid hp2
                have HIS := Lib.hid hp; have HSU := Lib.hid hp3
                clear hp hp2 hp3
                have p1 : (0 : Int) ≤ (P : Int) := by omega
                have p2 : (P : Int) < (K5 : Int) := by omega
                have p3 : ¬ (P : Int) < 0 := by omega
                have p4 : ¬ (K5 : Int) ≤ (P : Int) := by omega
                have hcA := hA5.lt
                go_wp2
                go_region_held3 (fun w' => w'.cell? ⟨x1.heap.size, 0, none⟩ = some (.slice ar nr cr) ∧ w'.cell? ⟨b1, o1 + P, none⟩ = some (.slice au nr cu))
                  (first | exact lX | exact ⟨lA5.1, g1⟩ | go_keep)
                  (first
                    | (go_at_call 19; refine (RackIsomorphism_ok nr ar au cr cu R U _ (by omega) (hT5.drewN 1) (ru.drewN 1) HRK.out HRU.out).mono ?_; rintro e w8 ⟨hor, hb8'⟩; obtain ⟨ap, cp, q, hq8, rfl, hop⟩ : (∃ (a : Option Addr) (c : Nat) (p : List Int), IsoL nr [R] [U] p ∧ e = .returned (.tuple #[.slice a nr c, .int .i64 0]) ∧ Own w8 _ a nr c p) := hor.resolve_right (fun hno => hno.1 _ HIS.out); have hb8 : Below x5.heap.size x5 w8 := below_th (below_drewN (Below.refl _ _) 1) hb8'; clear hb8'; have lX : w8.cell? ⟨x1.heap.size, 0, none⟩ = some (.slice ar nr cr) ∧ w8.cell? ⟨b1, o1 + P, none⟩ = some (.slice au nr cu) := ⟨(hb8.cell (p := ⟨x1.heap.size, 0, none⟩) hcA).trans lA5.1, (hb8.cell (p := ⟨b1, o1 + P, none⟩) lt1).trans g1⟩))
                all_goals
                  obtain ⟨lXa, lXb⟩ := lX
                  have hT8 := hT5.below hb8
                  have ru8 := ru.below hb8
                  have hp8 := hop.row
                  obtain ⟨hIP, hrn⟩ := (isoL_rn HSQ.out HSU.out).1 hq8
                  have HIP := Lib.hid hIP; have HRN := Lib.hid hrn
                  have hQ8 := below_th hQ5 hb8
                  have hcA8 : x1.heap.size < w8.heap.size := Nat.lt_of_lt_of_le hcA hb8.size
                  have lt18 : b1 < w8.heap.size := Nat.lt_of_lt_of_le lt1 hb8.size
                  clear hIP hrn hq8
                  go_wp2
                  go_region_held3 (fun w' => w'.cell? ⟨x1.heap.size, 0, none⟩ = some (.slice ar nr cr) ∧ w'.cell? ⟨b1, o1 + P, none⟩ = some (.slice au nr cu))
                    (first | exact lZ | exact lY | exact ⟨lXa, lXb⟩ | go_keep)
                    (first
                      | (go_at_call 20; refine (image9_any nr ar ap cr cp R q _ (hT8.drewN 1) (hp8.drewN 1) HSQ.out HIP.out (by omega) (by omega)).mono ?_; rintro e v8 ⟨a8, c8, vs8, rfl, ho8, hc8'⟩; have hc8 : Below w8.heap.size w8 v8 := below_th (below_drewN (Below.refl _ _) 1) hc8'; clear hc8'; have lY : v8.cell? ⟨x1.heap.size, 0, none⟩ = some (.slice ar nr cr) ∧ v8.cell? ⟨b1, o1 + P, none⟩ = some (.slice au nr cu) := ⟨(hc8.cell (p := ⟨x1.heap.size, 0, none⟩) hcA8).trans lXa, (hc8.cell (p := ⟨b1, o1 + P, none⟩) lt18).trans lXb⟩)
                      | (go_at_call 13; refine (same9_same a8 au nr nr c8 cu U _ (HRN.out ▸ ho8.tbl) (ru8.below hc8) (by omega)).mono ?_; rintro e v9 ⟨rfl, hv9⟩; have hc9 : Below w8.heap.size w8 v9 := below_th hc8 hv9; have lZ : v9.cell? ⟨x1.heap.size, 0, none⟩ = some (.slice ar nr cr) ∧ v9.cell? ⟨b1, o1 + P, none⟩ = some (.slice au nr cu) := ⟨(hc9.cell (p := ⟨x1.heap.size, 0, none⟩) hcA8).trans lXa, (hc9.cell (p := ⟨b1, o1 + P, none⟩) lt18).trans lXb⟩))
                  all_goals
                    have hQ9 := below_th hQ8 hc9
                    go_wp2
                    go_ret
                    exact ⟨rfl, hQ9⟩
              · obtain ⟨pv, pc, hpv, hpc⟩ : ∃ (pv pc : Int), porF R = (pv, pc) ∧ pc ≠ 0 := by
                  by_cases hrk : isRk R = true
                  · exact ⟨0, 3, porF_big hrk (fun h => hok ⟨hrk, h⟩), by omega⟩
                  · exact ⟨0, 1, porF_no (by simpa using hrk), by omega⟩
                rw [hpv]
                have y1 : (pc != 0) = true := by simpa using hpc
                have y2 : (pc != pc) = false := by simp
                have y3 : (pv != pv) = false := by simp
                clear hok hpv
                go_wp2
                go_ret
                exact ⟨rfl, hQ4⟩
    · have e1 : arkF q = ([], 2) := by unfold arkF; rw [if_neg hv]
      have e2 : crkF q = (0, 2) := by unfold crkF; rw [if_neg hv]
      have e3 : aqdF q = ([], 2) := by unfold aqdF; rw [if_neg hv]
      have hs := HS.out; have hi := HI.out; have hc := HC.out; have hqq := HQ.out
      rw [e1] at hs hi
      rw [e2] at hc
      rw [e3] at hqq
      clear HS HI HC HQ
      have HS := Lib.hid hs; have HI := Lib.hid hi; have HC := Lib.hid hc; have HQ := Lib.hid hqq
      clear hs hi hc hqq e1 e2 e3
      go_wp2_with fail
      refine (HI.out _).mono ?_
      rintro e w2 ⟨a2, K, c2, us2, rfl, ho2, hb2⟩
      obtain rfl : K = 0 := ho2.tbS.len
      have hB2 := below_th hB1 hb2
      clear ho2
      go_wp2_with fail
      refine (HS.out _).mono ?_
      rintro e w3 ⟨a3, K3, c3, us3, rfl, ho3, hb3⟩
      obtain rfl : K3 = 0 := ho3.tbS.len
      have hB3 := below_th hB2 hb3
      clear ho3
      go_wp2_with fail
      refine (HQ.out _).mono ?_
      rintro e w4 ⟨a4, K4, c4, us4, rfl, ho4, hb4⟩
      obtain rfl : K4 = 0 := ho4.tbS.len
      have hB4 := below_th hB3 hb4
      clear ho4
      go_wp2_with fail
      refine (HC.out _).mono ?_
      rintro e w5 ⟨rfl, hb5⟩
      have hB5 := below_th hB4 hb5
      go_wp2
      go_ret
      exact ⟨rfl, hB5⟩
end Go.Proofs.YtaddclaadbjnlaaGreat
