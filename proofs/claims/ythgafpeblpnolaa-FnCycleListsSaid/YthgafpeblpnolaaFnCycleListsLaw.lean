/-
  The walk of the law of the lists of cycle sets: it answers true.
  No condition.
-/
import Derived.Test.YthgafpeblpnolaaAprI
import Derived.Test.YthgafpeblpnolaaIm9
import Derived.Test.YthgafpeblpnolaaIcyI
import Derived.Test.YthgafpeblpnolaaDrLs
import Derived.Test.YthgafpeblpnolaaCyLP
import Derived.Test.YthgafpeblpnolaaAcy
import Derived.Test.YthgafpeblpnolaaCykIm
import Derived.Test.YthgafpeblpnolaaLaw9
namespace Go.Proofs.Ythgafpeblpnolaa
set_option maxRecDepth 100000
set_option linter.unusedVariables false
set_option linter.unusedSimpArgs false
open Go.RowKit

theorem fac_prm : ∀ n : Fin 5, 1 ≤ n.1 → (prmL n.1).length = facN n.1 := by decide +kernel
theorem sum_take_le {α : Type} (f : α → Nat) (l : List α) (k : Nat) : ((l.take k).map f).sum ≤ (l.map f).sum := by
  have h : (l.map f).sum = ((l.take k ++ l.drop k).map f).sum := by rw [List.take_append_drop]
  rw [h, List.map_append, List.sum_append]; omega
theorem sum_take_succ {α : Type} (f : α → Nat) (l : List α) (d : α) {k : Nat} (h : k < l.length) : ((l.take (k + 1)).map f).sum = ((l.take k).map f).sum + f (l.getD k d) := by
  rw [List.take_succ_eq_append_getElem h, List.map_append, List.sum_append]
  simp [List.getD_eq_getElem?_getD, List.getElem?_eq_getElem h]
theorem cyk_len {n : Nat} (h1 : 1 ≤ n) (h4 : n ≤ 4) : (((rowL n (cycR n)).filter (lstB n)).map (gfN n)).sum = (trnN n).length := by
  rw [row_orbits h1 h4 (cy_rn h1 h4), cyk_eq ⟨n, by omega⟩ h1]
/-- how many of the first k permutations keep a table -/
def kpK (n : Nat) (t : List (List Int)) (k : Nat) : Nat := (((prmL n).take k).filter fun p => decide (rnL n t p = t)).length
theorem kpK_succ {n : Nat} {t : List (List Int)} {k : Nat} (h : k < (prmL n).length) : kpK n t (k + 1) = kpK n t k + if rnL n t ((prmL n).getD k []) = t then 1 else 0 := by
  unfold kpK
  rw [filter_take_succ _ _ [] h, List.length_append]
  by_cases e : rnL n t ((prmL n).getD k []) = t
  · rw [if_pos (by simpa using e), if_pos e]; rfl
  · rw [if_neg (by simpa using e), if_neg e]; rfl

set_option maxHeartbeats 32000000 in
theorem law_Cls (a : Option Addr) (m c : Nat) (xs : List Int) (w : World) (h : Bts w a m xs) (hn : m ≤ 9223372036854775807) :
    Calls Try.prog 4 #[.slice a m c] w fun e w' => e = .returned (.bool true) ∧ Below w.heap.size w w' := by
  go_enter Try.func4, Try.ntmps4
  go_wp2_with fail
  refine (big_any a m c _ hn).mono ?_
  rintro e w0 ⟨rfl, rfl⟩
  by_cases hbig : 4096 < m
  · have hd : decide (4096 < m) = true := by simpa using hbig
    rw [hd]
    go_wp2
    go_ret
    exact ⟨rfl, Below.refl _ _⟩
  · have hd : decide (4096 < m) = false := by simpa using hbig
    rw [hd]
    clear hd hbig
    go_wp2_with fail
    refine (DrawAllCycleSets_ok a m c xs _ h hn).mono ?_
    rintro e w1 ⟨q, rfl, hq, hB1⟩
    have hq64 : I64 q := by
      simp at hq
      rcases hq with h | h | h | h | h | h <;> (subst h; exact ⟨by omega, by omega⟩)
    have HS := Lib.hid (fun w => spec_Acy_l q w hq64)
    have HI := Lib.hid (fun w => impl_Acy_l q w hq64)
    have HC := Lib.hid (fun w => impl_Cyk_l q w hq64)
    by_cases hv : 1 ≤ q ∧ q ≤ 4
    · obtain ⟨n, rfl⟩ : ∃ n : Nat, q = n := ⟨q.toNat, by omega⟩
      have n1 : 1 ≤ n := by omega
      have n4 : n ≤ 4 := by omega
      obtain ⟨L, HL⟩ : ∃ L, Hid ((rowL n (cycR n)).filter (lstB n) = L) := ⟨_, Lib.hid rfl⟩
      obtain ⟨T, HT⟩ : ∃ T : Nat, Hid ((trnN n).length = T) := ⟨_, Lib.hid rfl⟩
      have e1 : acyF n = (L, 0) := by unfold acyF; rw [if_pos hv, Int.toNat_natCast, HL.out]
      have e2 : cykF n = ((T : Int), 0) := by unfold cykF; rw [if_pos hv, Int.toNat_natCast, HT.out]
      have hs := HS.out; have hi := HI.out; have hc := HC.out
      rw [e1] at hs hi
      rw [e2] at hc
      clear HS HI HC
      have HS := Lib.hid hs; have HI := Lib.hid hi; have HC := Lib.hid hc
      have HLL : Hid (L.length = [0, 1, 2, 5, 23].getD n 0) := Lib.hid (by rw [← HL.out]; exact cy_lens n1 n4)
      have HSUM : Hid ((L.map (gfN n)).sum = T) := Lib.hid (by rw [← HL.out, ← HT.out]; exact cyk_len n1 n4)
      have HMEM : Hid (∀ k, k < L.length → RwsP n (L.getD k []) ∧ isCyc n (L.getD k []) = true) := Lib.hid fun k hk => by
        have hm : L.getD k [] ∈ L := by rw [List.getD_eq_getElem?_getD, List.getElem?_eq_getElem hk]; exact List.getElem_mem hk
        rw [← HL.out] at hm ⊢
        exact (cy_in n1 n4).1 (List.mem_filter.1 hm).1
      have HL23 : Hid (L.length ≤ 23) := Lib.hid (by
        rw [HLL.out]
        have hq : n = 1 ∨ n = 2 ∨ n = 3 ∨ n = 4 := by omega
        rcases hq with rfl | rfl | rfl | rfl <;> decide)
      have HTB : Hid (T ≤ 1000000) := Lib.hid (by
        rw [← HSUM.out]
        have h23 := HL23.out
        have hb : ∀ (l : List (List (List Int))), (l.map (gfN n)).sum ≤ l.length * 24 := by
          intro l
          induction l with
          | nil => simp
          | cons t l ih =>
            have h1 : gfN n t ≤ 24 := by
              unfold gfN
              exact Nat.le_trans (Nat.div_le_self _ _) (prm_bd n1 n4).1
            rw [List.map_cons, List.sum_cons, List.length_cons, Nat.succ_mul]; omega
        have := hb L
        omega)
      have HPF : Hid ((prmL n).length = facN n) := Lib.hid (fac_prm ⟨n, by omega⟩ n1)
      have HPB : Hid ((prmL n).length ≤ 24) := Lib.hid (prm_bd n1 n4).1
      have HGF : Hid (∀ t, gfN n t = facN n / kpK n t (prmL n).length) := Lib.hid fun t => by
        unfold gfN kpN kpK; rw [List.take_length, HPF.out]
      have HKP : Hid (∀ t, RwsP n t → 1 ≤ kpK n t (prmL n).length) := Lib.hid fun t ht => by
        have := kp_pos (rnL_wrk n1 n4) ht.sq
        unfold kpN at this; unfold kpK; rw [List.take_length]; exact this
      have HKS : Hid (∀ t k, k < (prmL n).length → kpK n t (k + 1) = kpK n t k + if rnL n t ((prmL n).getD k []) = t then 1 else 0) := Lib.hid fun t k hk => kpK_succ hk
      have HPP : Hid (∀ k, k < (prmL n).length → IsP n ((prmL n).getD k [])) := Lib.hid fun k hk => prm_isP n1 n4 k hk
      have HKB : Hid (∀ t k, kpK n t k ≤ 24) := Lib.hid fun t k => by
        have h1 : kpK n t k ≤ ((prmL n).take k).length := List.length_filter_le _ _
        have := HPB.out
        rw [List.length_take] at h1; omega
      clear hs hi hc e1 e2 hq hv hq64 HL HT
      go_wp2_with fail
      refine (HI.out _).mono ?_
      rintro e w2 ⟨a2, K, c2, us2, rfl, ho2, hb2⟩
      have HKL := Lib.hid ho2.len
      have t2 := ho2.tbS
      have hB2 := below_th hB1 hb2
      clear ho2
      go_wp2_with fail
      refine (HS.out _).mono ?_
      rintro e w3 ⟨a3, K3, c3, us3, rfl, ho3, hb3⟩
      obtain rfl : K = K3 := by have := HKL.out; have := ho3.len; omega
      have t3 := ho3.tbS
      have t2 := t2.below hb3
      have hB3 := below_th hB2 hb3
      clear ho3
      have u0 : ((K : Int) != (K : Int)) = false := by simp
      go_wp2_with fail
      refine (HC.out _).mono ?_
      rintro e w4 ⟨rfl, hb4⟩
      have t3 := t3.below hb4
      have t2 := t2.below hb4
      have hB4 := below_th hB3 hb4
      go_wp2_with fail
      refine (allPerms_any n _ n1 n4).mono ?_
      rintro e w5 ⟨a5, P, c5, vs5, rfl, ho5, hb5⟩
      have HPL := Lib.hid ho5.len
      have p5 := ho5.tbl
      clear ho5
      have t3 := t3.below hb5
      have t2 := t2.below hb5
      have hB5 := below_th hB4 hb5
      obtain ⟨w6, hw6⟩ : ∃ w6, w5.alloc (.cells #[.int .i64 0, .int .i64 1, .int .i64 2, .int .i64 5, .int .i64 23] 3) = w6 := ⟨_, rfl⟩
      have hb6 : Below w5.heap.size w5 w6 := by rw [← hw6]; exact below_al (Below.refl _ _) _
      have hcc : w6.cell? ⟨w5.heap.size, n, none⟩ = some (.int .i64 K) := by
        rw [← hw6]
        refine (Loc.new w5 rfl _ _).cell n ?_
        have h1 := HLL.out
        rw [← HKL.out] at h1
        have hq : n = 1 ∨ n = 2 ∨ n = 3 ∨ n = 4 := by omega
        rcases hq with rfl | rfl | rfl | rfl <;> (simp at h1; subst h1; rfl)
      have t3 := t3.below hb6
      have t2 := t2.below hb6
      have p6 := p5.below hb6
      have hB6 := below_th hB5 hb6
      have i0 : (0 : Int) ≤ (n : Int) := by omega
      have i5 : (n : Int) < 5 := by omega
      have HFP : Hid (facN n = P) := Lib.hid (by rw [HPL.out, HPF.out])
      have HF9 := Lib.hid (fun w => fact9_any n w n1 n4)
      have hf9 := HF9.out
      rw [HFP.out] at hf9
      clear HF9
      have HF9 := Lib.hid hf9
      have hPb : P ≤ 24 := by have := HPB.out; have := HPL.out; omega
      have u1 : ((P : Int) != (P : Int)) = false := by simp
      clear hf9
      go_wp2_with fail
      refine (HF9.out _).mono ?_
      rintro e w7 ⟨rfl, hw7⟩
      have HW6 := Lib.hid hw6
      clear hw6
      obtain rfl : w6 = w7 := by first | exact hw7.symm | exact (hw7.trans HW6.out).symm
      clear hw7 hb2 hb3 hb4 hb5 hb6 hB1 hB2 hB3 hB4 hB5 h hcc
      go_wp2
      have hK23 : K ≤ 23 := by have := HKL.out; have := HL23.out; omega
      go_loopw [13, 14, 15, 16] (fun tot i _ _ wr => ∃ j : Nat, j ≤ K ∧ i = .int .i64 j ∧ tot = .int .i64 ((((L.take j).map (gfN n)).sum : Nat) : Int) ∧ Below w.heap.size w wr ∧ Below w6.heap.size w6 wr) (fun _ i _ _ _ => K - (intOf i).toNat)
      case atStart => exact ⟨0, Nat.zero_le _, rfl, rfl, hB6, Below.refl _ _⟩
      case round =>
        clear hB6
        obtain ⟨j, hj, rfl, rfl, hq, hq6⟩ := hrel
        have hST := sum_take_le (gfN n) L j
        rw [HSUM.out] at hST
        by_cases hlt : j < K
        · have HTS := Lib.hid (sum_take_succ (gfN n) L [] (k := j) (by have := HKL.out; omega))
          have hST2 := sum_take_le (gfN n) L (j + 1)
          rw [HSUM.out] at hST2
          obtain ⟨S, hS⟩ : ∃ S, ((L.take j).map (gfN n)).sum = S := ⟨_, rfl⟩
          rw [hS] at hST HTS ⊢
          have HSX := Lib.hid hS
          clear hS
          obtain ⟨S2, HS2⟩ : ∃ S2, Hid (((L.take (j + 1)).map (gfN n)).sum = S2) := ⟨_, Lib.hid rfl⟩
          rw [HS2.out] at hST2 HTS
          have hTB := HTB.out
          obtain ⟨V, rfl⟩ : ∃ V : World, V = wr := ⟨_, rfl⟩
          have t2a := (t2.below hq6).2
          have t3a := (t3.below hq6).2
          obtain ⟨b1, o1, at1, nt1, ct1, rfl, lt1, g1, r1, l1⟩ := t2a j hlt
          obtain ⟨b2, o2, at2, nt2, ct2, rfl, lt2, g2, r2, l2⟩ := t3a j hlt
          obtain ⟨hrp, hcy⟩ := HMEM.out j (by have := HKL.out; omega)
          obtain ⟨t, HTT⟩ : ∃ t, Hid (L.getD j [] = t) := ⟨_, Lib.hid rfl⟩
          rw [HTT.out] at r1 r2 hrp hcy HTS
          obtain rfl : n = nt1 := by have := r1.len; rw [hrp.1] at this; exact this.symm
          obtain rfl : n = nt2 := by have := r2.len; rw [hrp.1] at this; exact this.symm
          have HRP := Lib.hid hrp; have HCY := Lib.hid hcy
          clear hrp hcy t2a t3a
          have j1 : (0 : Int) ≤ (j : Int) := by omega
          have j2 : (j : Int) < (K : Int) := by omega
          go_wp2
          go_region_held3 (fun w' => w'.cell? ⟨b1, o1 + j, none⟩ = some (.slice at1 n ct1) ∧ w'.cell? ⟨b2, o2 + j, none⟩ = some (.slice at2 n ct2))
            (first | exact lY | exact lX | exact ⟨g1, g2⟩ | go_keep)
            (first
              | (go_at_call 17; refine (same9_same at1 at2 n n ct1 ct2 t _ (r1.drewN 1) (r2.drewN 1) (by omega)).mono ?_; rintro e w8 ⟨rfl, hb8'⟩; have hb8 : Below V.heap.size V w8 := below_th (below_drewN (Below.refl _ _) 1) hb8'; clear hb8'; have lX : w8.cell? ⟨b1, o1 + j, none⟩ = some (.slice at1 n ct1) ∧ w8.cell? ⟨b2, o2 + j, none⟩ = some (.slice at2 n ct2) := ⟨(hb8.cell (p := ⟨b1, o1 + j, none⟩) lt1).trans g1, (hb8.cell (p := ⟨b2, o2 + j, none⟩) lt2).trans g2⟩)
              | (go_at_call 18; refine (isCycleSet_yes n at1 ct1 t _ (r1.below hb8) HRP.out n1 (by omega) HCY.out).mono ?_; rintro e w9 ⟨rfl, hb9⟩; have hb89 : Below V.heap.size V w9 := below_th hb8 hb9; have lY : w9.cell? ⟨b1, o1 + j, none⟩ = some (.slice at1 n ct1) ∧ w9.cell? ⟨b2, o2 + j, none⟩ = some (.slice at2 n ct2) := ⟨(hb89.cell (p := ⟨b1, o1 + j, none⟩) lt1).trans g1, (hb89.cell (p := ⟨b2, o2 + j, none⟩) lt2).trans g2⟩))
          all_goals
            have t2' := t2.below hq6
            have hz := hb89.size
            have hQ9 : Below w.heap.size w w9 := below_th hq hb89
            have hQ69 : Below w6.heap.size w6 w9 := below_th hq6 hb89
            obtain ⟨lY1, _⟩ := lY
            go_wp2
            go_loopw [15, 16] (fun kp k wr => ∃ i : Nat, i ≤ P ∧ k = .int .i64 i ∧ kp = .int .i64 ((kpK n t i : Nat) : Int) ∧ Below w9.heap.size w9 wr) (fun _ k _ => P - (intOf k).toNat)
            case atStart => exact ⟨0, Nat.zero_le _, rfl, rfl, Below.refl _ _⟩
            case round =>
              obtain ⟨k, hk, rfl, rfl, hk9⟩ := hrel
              have hkb := HKB.out t k
              obtain ⟨W, rfl⟩ : ∃ W : World, W = wr := ⟨_, rfl⟩
              by_cases hltk : k < P
              · obtain ⟨b3, o3, ap, np, cp, rfl, lt3, g3, r3, l3⟩ := ((p6.below hQ69).below hk9).2 k hltk
                have hbV : Below V.heap.size V W := below_th hb89 hk9
                have gW : W.cell? ⟨b1, o1 + j, none⟩ = some (.slice at1 n ct1) := (hbV.cell (p := ⟨b1, o1 + j, none⟩) lt1).trans g1
                have r1W := r1.below hbV
                obtain ⟨p, HPK⟩ : ∃ p, Hid ((prmL n).getD k [] = p) := ⟨_, Lib.hid rfl⟩
                rw [HPK.out] at r3
                have hip : IsP n p := by rw [← HPK.out]; exact HPP.out k (by have := HPL.out; omega)
                obtain rfl : n = np := by have := r3.len; rw [hip.len] at this; exact this.symm
                have HIP := Lib.hid hip
                clear hip
                have HKN : Hid (kpK n t (k + 1) = kpK n t k + if rnL n t p = t then 1 else 0) := Lib.hid (by rw [← HPK.out]; exact HKS.out t k (by have := HPL.out; omega))
                have hkb2 := HKB.out t (k + 1)
                obtain ⟨KK, HKK⟩ : ∃ KK, Hid (kpK n t k = KK) := ⟨_, Lib.hid rfl⟩
                rw [HKK.out] at hkb HKN ⊢
                obtain ⟨R, HR⟩ : ∃ R, Hid (rnL n t p = R) := ⟨_, Lib.hid rfl⟩
                rw [HR.out] at HKN
                obtain ⟨D, HD⟩ : ∃ D, Hid (decide (R = t) = D) := ⟨_, Lib.hid rfl⟩
                have k1 : (0 : Int) ≤ (k : Int) := by omega
                have k2 : (k : Int) < (P : Int) := by omega
                go_wp2
                go_region_held3 (fun w' => w'.cell? ⟨b1, o1 + j, none⟩ = some (.slice at1 n ct1) ∧ w'.cell? ⟨b3, o3 + k, none⟩ = some (.slice ap n cp))
                  (first | exact lM | exact lN | exact ⟨gW, g3⟩ | go_keep)
                  (first
                    | (go_at_call 19; refine (image9_any n at1 ap ct1 cp t p _ (r1W.drewN 1) (r3.drewN 1) HRP.out.sq HIP.out n1 (by omega)).mono ?_; rintro e v8 ⟨a8, c8, vs8, rfl, ho8, hc8'⟩; have hc8 : Below W.heap.size W v8 := below_th (below_drewN (Below.refl _ _) 1) hc8'; clear hc8'; have lN : v8.cell? ⟨b1, o1 + j, none⟩ = some (.slice at1 n ct1) ∧ v8.cell? ⟨b3, o3 + k, none⟩ = some (.slice ap n cp) := ⟨(hc8.cell (p := ⟨b1, o1 + j, none⟩) (Nat.lt_of_lt_of_le lt1 hbV.size)).trans gW, (hc8.cell (p := ⟨b3, o3 + k, none⟩) lt3).trans g3⟩)
                    | (go_at_call 17; refine (same9_any a8 at1 n n c8 ct1 R t _ (HR.out ▸ ho8.tbl) (r1W.below hc8) (by omega)).mono ?_; rintro e v9 ⟨rfl, m9, hv9⟩; rw [HD.out]; have hc9 : Below W.heap.size W v9 := (by rw [hv9]; exact below_drewN hc8 m9); clear hv9; have lM : v9.cell? ⟨b1, o1 + j, none⟩ = some (.slice at1 n ct1) ∧ v9.cell? ⟨b3, o3 + k, none⟩ = some (.slice ap n cp) := ⟨(hc9.cell (p := ⟨b1, o1 + j, none⟩) (Nat.lt_of_lt_of_le lt1 hbV.size)).trans gW, (hc9.cell (p := ⟨b3, o3 + k, none⟩) lt3).trans g3⟩))
                all_goals
                  have hc9w : Below w9.heap.size w9 v9 := below_th hk9 hc9
                  cases D with
                  | true =>
                    have HE : Hid (kpK n t (k + 1) = KK + 1) := Lib.hid (by rw [HKN.out, if_pos (of_decide_eq_true HD.out)])
                    go_wp2
                    go_roundw
                    case rel => exact ⟨k + 1, by omega, by go_num, by rw [HE.out]; go_num, hc9w⟩
                    case measure => simp [intOf]; omega
                  | false =>
                    have HE : Hid (kpK n t (k + 1) = KK) := Lib.hid (by rw [HKN.out, if_neg (of_decide_eq_false HD.out)]; rfl)
                    go_wp2
                    go_roundw
                    case rel => exact ⟨k + 1, by omega, by go_num, by rw [HE.out], hc9w⟩
                    case measure => simp [intOf]; omega
              · obtain rfl : k = P := by omega
                have hkp : 1 ≤ kpK n t k := by
                  have := HKP.out t HRP.out
                  rwa [← HPL.out] at this
                have HGT : Hid (gfN n t = k / kpK n t k) := Lib.hid (by rw [HGF.out t, HFP.out, ← HPL.out])
                obtain ⟨KK, HKK⟩ : ∃ KK, Hid (kpK n t k = KK) := ⟨_, Lib.hid rfl⟩
                rw [HKK.out] at hkb HGT hkp ⊢
                rw [HGT.out] at HTS
                have z1 : ¬ (KK : Int) = 0 := by omega
                have z2 : ((KK : Int) == 0) = false := by simpa using z1
                have z3 : Int.tdiv (k : Int) (KK : Int) = ((k / KK : Nat) : Int) := rfl
                have hle : k / KK ≤ 24 := Nat.le_trans (Nat.div_le_self _ _) hPb
                have HZ3 := Lib.hid z3
                obtain ⟨X, HX⟩ : ∃ X, Hid (k / KK = X) := ⟨_, Lib.hid rfl⟩
                rw [HX.out] at hle HZ3 HTS
                clear z3
                have z4 := HZ3.out
                go_wp2_with fail
                refine (HF9.out _).mono ?_
                rintro e v7 ⟨rfl, hv7⟩
                obtain rfl : W = v7 := hv7.symm
                go_wp2
                go_roundw
                case rel => exact ⟨j + 1, by omega, by go_num, by rw [HS2.out, HTS.out]; go_num, below_th hQ9 hk9, below_th hQ69 hk9⟩
                case measure => simp [intOf]; omega
        · obtain rfl : j = K := by omega
          have HTT : Hid (((L.take j).map (gfN n)).sum = T) := Lib.hid (by rw [HKL.out, List.take_length]; exact HSUM.out)
          rw [HTT.out]
          have z5 : ((T : Int) == (T : Int)) = true := by simp
          go_wp2
          go_ret
          exact ⟨rfl, hq⟩
    · have e1 : acyF q = ([], 2) := by unfold acyF; rw [if_neg hv]
      have e2 : cykF q = (0, 2) := by unfold cykF; rw [if_neg hv]
      have hs := HS.out; have hi := HI.out; have hc := HC.out
      rw [e1] at hs hi
      rw [e2] at hc
      clear HS HI HC
      have HS := Lib.hid hs; have HI := Lib.hid hi; have HC := Lib.hid hc
      clear hs hi hc e1 e2
      go_wp2_with fail
      refine (HI.out _).mono ?_
      rintro e w2 ⟨a2, K, c2, us2, rfl, ho2, hb2⟩
      obtain rfl : K = 0 := ho2.len
      have hB2 := below_th hB1 hb2
      clear ho2
      go_wp2_with fail
      refine (HS.out _).mono ?_
      rintro e w3 ⟨a3, K3, c3, us3, rfl, ho3, hb3⟩
      obtain rfl : K3 = 0 := ho3.len
      have hB3 := below_th hB2 hb3
      clear ho3
      go_wp2_with fail
      refine (HC.out _).mono ?_
      rintro e w4 ⟨rfl, hb4⟩
      have hB4 := below_th hB3 hb4
      go_wp2
      go_ret
      exact ⟨rfl, hB4⟩
end Go.Proofs.Ythgafpeblpnolaa
