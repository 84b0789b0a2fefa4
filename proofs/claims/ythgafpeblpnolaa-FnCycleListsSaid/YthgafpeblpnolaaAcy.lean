/-
  AllCycleSets: what the reference's and the program's compute.
  No condition but bounds.
-/
import Derived.Test.YthgafpeblpnolaaBase3
import Derived.Test.YthgafpeblpnolaaULCy
import Derived.Test.YthgafpeblpnolaaCykIm
namespace Go.Proofs.Ythgafpeblpnolaa
set_option maxRecDepth 100000
set_option linter.unusedVariables false
set_option linter.unusedSimpArgs false
open Go.RowKit

theorem OwnCy.fresh (w : World) {b : Nat} (hb : b = w.heap.size) : OwnCy (w.alloc (.cells #[] 43)) w.heap.size (some ⟨b, 0, none⟩) 0 0 [] [] :=
  ⟨rfl, rfl, ownsRowCy_mk rfl (by omega) (Loc.new w hb _ _) (Nat.le_refl _) (by unfold maxLen; omega) rfl rfl, fun i h => absurd h (by omega), fun i h => absurd h (by omega), fun i j h => absurd h (by omega)⟩
/-- what AllCycleSets answers -/
def acyF (x : Int) : List (List (List Int)) × Int := if 1 ≤ x ∧ x ≤ 4 then ((rowL x.toNat (cycR x.toNat)).filter (lstB x.toNat), 0) else ([], 2)
theorem acy_eq {n : Nat} (h1 : 1 ≤ n) (h4 : n ≤ 4) : srtL n (fun _ => true) (trnN n) = (rowL n (cycR n)).filter (lstB n) := by
  have hr : trnN n = rowL n (cycR n) := (cyk_eq ⟨n, by omega⟩ h1).symm
  rw [hr, srtL_filter rowL_len (rowG_sorted (prm_sorted ⟨n, by omega⟩) _ _)]
  exact List.filter_congr fun t _ => by simp
theorem acyF_len (x : Int) : (acyF x).1.length ≤ 1000000 ∧ totS (acyF x).1 ≤ 1000000000 := by
  unfold acyF
  split
  · exact lists_bd (by omega) (by omega) _ _
  · simp [totS]

set_option maxHeartbeats 16000000 in
theorem spec_Acy_l (x : Int) (w : World) (hx : I64 x) :
    Calls Try.prog 13 #[.int .i64 x] w (RetLCy w (acyF x).1 (acyF x).2) := by
  have hin := fun w => l01In_any x 1 4 w
  by_cases h : 1 ≤ x ∧ x ≤ 4
  · obtain ⟨n, rfl⟩ : ∃ n : Nat, x = n := ⟨x.toNat, by omega⟩
    have h1 : 1 ≤ n := by omega
    have h4 : n ≤ 4 := by omega
    obtain ⟨KK, HKK⟩ : ∃ KK, Hid (srtL n (fun _ => true) (trnN n) = KK) := ⟨_, rfl⟩
    have hqa : acyF n = (KK, 0) := by unfold acyF; rw [if_pos h, Int.toNat_natCast, ← acy_eq h1 h4, HKK.out]
    rw [hqa]
    have hd : (decide ((1 : Int) ≤ n) && decide ((n : Int) ≤ 4)) = true := by simp; omega
    rw [hd] at hin
    have HIN := Lib.hid hin
    clear hin hd h hqa
    obtain ⟨flt, hflt⟩ : ∃ flt : List (List Int) → Bool, flt = fun _ => true := ⟨_, rfl⟩
    rw [← hflt] at HKK
    obtain ⟨L, HLL⟩ : ∃ L, Hid (trnN n = L) := ⟨_, rfl⟩
    rw [HLL.out] at HKK
    have hRP : ∀ i, i < L.length → RwsP n (L.getD i []) := fun i hi => by
      rw [← HLL.out, ← cyk_eq ⟨n, by omega⟩ h1] at hi ⊢
      exact rowL_rwsP h1 h4 hi
    have HRP := Lib.hid hRP
    have HSH := Lib.hid (srtK_shp (n := n) (flt := flt) (L := L) fun i hi => (hRP i hi).1)
    have HSC := Lib.hid (srtK_src (n := n) (flt := flt) (L := L))
    have HFL := Lib.hid hflt
    have HPB := Lib.hid (prm_bd h1 h4)
    have HPI := Lib.hid (prm_isP h1 h4)
    clear hRP hflt
    go_enter Try.func13, Try.ntmps13
    go_wp2_with fail
    refine (HIN.out _).mono ?_
    rintro e w1 ⟨rfl, rfl⟩
    go_wp2_with fail
    refine (l19Cycles_any n _ h1 h4).mono ?_
    rintro e w1 ⟨a1, K, c1, us, rfl, ht1, hb1⟩
    rw [HLL.out] at ht1
    go_wp2_with fail
    refine (l01Perms_any n w1 (by omega)).mono ?_
    rintro e w2 ⟨pa, P, pc, pvs, rfl, hp2, hb2⟩
    obtain ⟨w3, hw3⟩ : ∃ w3, w2.alloc (.cells #[] 57) = w3 := ⟨_, rfl⟩
    have hz3 : w3.heap.size = w2.heap.size + 1 := by rw [← hw3]; simp
    have hB2 : Below w.heap.size w w2 := below_th hb1 hb2
    have hB3 : Below w.heap.size w w3 := by rw [← hw3]; exact below_al hB2 _
    have hQ3 : LstQ w3 (some ⟨w2.heap.size, 0, none⟩) 0 [] [] := by rw [← hw3]; exact LstQ.fresh w2 rfl _
    have ht3 : OwnTT w3 w.heap.size a1 K c1 us L := by rw [← hw3]; exact (ht1.below hb2).alloc _
    have hp3 : Tbl w3 pa P (prmL n) := by rw [← hw3]; exact (hp2.alloc _).tbl
    have HKL := Lib.hid ht1.len
    have HPL := Lib.hid hp2.tbl.len
    have hKc : K ≤ 1000000 := by
      have e5 := HKL.out
      have h := rowG_bd (prmL n) (cycR n) n []
      have e1 := HPB.out
      have e2 : (prmL n).length ^ n ≤ 24 ^ n := Nat.pow_le_pow_left e1.1 n
      have e3 : (24 : Nat) ^ n ≤ 24 ^ 4 := Nat.pow_le_pow_right (by omega) h4
      have e4 : (24 : Nat) ^ 4 ≤ 1000000 := by decide
      have hr : trnN n = rowL n (cycR n) := (cyk_eq ⟨n, by omega⟩ h1).symm
      rw [← HLL.out, hr] at e5
      unfold rowL at e5
      omega
    have hP24 : P ≤ 1000000 := by have := HPL.out; have := HPB.out; omega
    clear ht1 hp2
    go_wp2
    clear hw3
    go_loopw [6, 7, 8] (fun s7 i _ wr => ∃ (j N c' : Nat) (g : Nat) (vs : List SV), j ≤ K ∧ i = .int .i64 j ∧ s7 = .slice (some ⟨g, 0, none⟩) N c' ∧ N ≤ c' ∧ c' ≤ 9223372036854775807 ∧ LstQ wr (some ⟨g, 0, none⟩) N vs (srtK n flt L j) ∧ Below w3.heap.size w3 wr) (fun _ i _ _ => K - (intOf i).toNat)
    case atStart => exact ⟨0, 0, 0, _, [], Nat.zero_le _, rfl, rfl, Nat.le_refl _, by omega, by simpa [srtK] using hQ3, Below.refl _ _⟩
    case round =>
      clear hQ3
      obtain ⟨j, N, c', g, vs, hj, rfl, rfl, hNc, hc9, hQ, hq⟩ := hrel
      have hsh := HSH.out j (by have := HKL.out; omega)
      have hNj : N ≤ j := by have := hQ.len; omega
      have HSA := Lib.hid hsh.2
      clear hsh
      by_cases hlt : j < K
      · have htr := ht3.below hq
        obtain ⟨g1, rfl, hg1, hcell, _⟩ := htr.cells (by omega)
        have cj := hcell j hlt
        have hv := htr.tab j hlt
        obtain ⟨⟨⟨va, vn, vc⟩, vv⟩, HV⟩ : ∃ u, Hid (us.getD j tvO = u) := ⟨_, rfl⟩
        rw [HV.out] at cj hv
        change wr.cell? _ = some (.slice va vn vc) at cj
        have hrp := HRP.out j (by have := HKL.out; omega)
        have hKS := srtK_succ n flt L (k := j) (by have := HKL.out; omega)
        obtain ⟨t, HT⟩ : ∃ t, Hid (L.getD j [] = t) := ⟨_, rfl⟩
        rw [HT.out] at hv hrp hKS
        obtain rfl : n = vn := by have := OwnT.len hv; rw [hrp.1] at this; exact this.symm
        have HSQ := Lib.hid hrp.sq
        have HTL := Lib.hid hrp.1
        have htb : Tbl wr va n t := OwnT.tbl hv
        have i1 : (0 : Int) ≤ (j : Int) := by omega
        have i2 : (j : Int) < (K : Int) := by omega
        have HKS := Lib.hid hKS
        have hqw := hB3.trans (hq.mono hB3.size)
        have HLE : Hid (∀ i, i < N → Shp 1 n ((srtK n flt L j).getD i [])) := Lib.hid fun i hi => by
          have : i < (srtK n flt L j).length := by have := hQ.len; omega
          rw [List.getD_eq_getElem?_getD, List.getElem?_eq_getElem this, Option.getD_some]
          exact HSA.out _ (List.getElem_mem this)
        have HS1 : Hid (∀ k, k < 1 → Sq n (([t] : List (List (List Int))).getD k [])) := Lib.hid fun k hk => by
          obtain rfl : k = 0 := by omega
          exact HSQ.out
        have HSP : Hid (Shp 1 n [t]) := Lib.hid ⟨rfl, fun k hk => by
          obtain rfl : k = 0 := by omega
          exact HTL.out⟩
        have HPX : Hid (∀ i, i < P → IsP n ((prmL n).getD i [])) := Lib.hid fun i hi => HPI.out i (by have := HPL.out; omega)
        obtain ⟨B, HB⟩ : ∃ B, Hid (onlL n (prmL n) [t] = B) := ⟨_, rfl⟩
        clear hcell hv hrp hKS htr
        have HF : Hid (flt t = true) := Lib.hid (by rw [HFL.out])
        have hbW : Below wr.heap.size wr wr := Below.refl _ _
        have hqW := hq
        have hlitT : TbS (wr.alloc (.cells #[.slice va n vc] 36)) (some ⟨wr.heap.size, 0, none⟩) 1 [t] := TbS.one rfl (htb.below hbW) (by omega) _
        have hpl := (hp3.below hqW).alloc (.cells #[.slice va n vc] 36)
        have hQl := (hQ.below hbW).below (w' := wr.alloc (.cells #[.slice va n vc] 36)) (below_al (Below.refl _ _) _)
        have hql : Below w3.heap.size w3 (wr.alloc (.cells #[.slice va n vc] 36)) := below_al hqW _
        cases B with
        | true =>
          have HK1 : Hid (srtK n flt L (j + 1) = insQ [t] (srtK n flt L j)) := Lib.hid (by rw [HKS.out]; unfold srtF; rw [HF.out, HB.out]; rfl)
          go_wp2_with fail
          refine (l19Own_any n 1 P (some ⟨wr.heap.size, 0, none⟩) pa 1 pc [t] (prmL n) _ hlitT hpl h1 (by omega) (by omega) hP24 HS1.out HPX.out).mono ?_
          rintro e w5 ⟨rfl, hb5⟩
          rw [HB.out]
          go_wp2_with fail
          refine (l19Sort_any 1 n N c' (some ⟨g, 0, none⟩) (some ⟨wr.heap.size, 0, none⟩) 1 vs _ [t] w5 (hQl.below hb5) hNc hc9 ⟨_, _, rfl⟩ (hlitT.below hb5) (by omega) (by omega) HLE.out HSP.out).mono ?_
          rintro e w6 ⟨g6, c6, vs6, rfl, hn6, hc6, hQ6, hb6⟩
          go_wp2
          go_roundw
          case rel => exact ⟨j + 1, N + 1, c6, g6, vs6, by omega, by go_num, rfl, hn6, hc6, by rw [HK1.out]; exact hQ6, below_th (below_th hql hb5) hb6⟩
          case measure => simp [intOf]; omega
        | false =>
          have HK1 : Hid (srtK n flt L (j + 1) = srtK n flt L j) := Lib.hid (by rw [HKS.out]; unfold srtF; rw [HF.out, HB.out]; rfl)
          go_wp2_with fail
          refine (l19Own_any n 1 P (some ⟨wr.heap.size, 0, none⟩) pa 1 pc [t] (prmL n) _ hlitT hpl h1 (by omega) (by omega) hP24 HS1.out HPX.out).mono ?_
          rintro e w5 ⟨rfl, hb5⟩
          rw [HB.out]
          go_wp2
          go_roundw
          case rel => exact ⟨j + 1, N, c', g, vs, by omega, by go_num, rfl, hNc, hc9, by rw [HK1.out]; exact hQl.below hb5, below_th hql hb5⟩
          case measure => simp [intOf]; omega
      · obtain rfl : K = j := by omega
        have hE : srtK n flt L K = L.foldl (srtF n flt) [] := by unfold srtK; rw [List.take_of_length_le (by have := HKL.out; omega)]
        obtain ⟨acc, HACC⟩ : ∃ acc, Hid (L.foldl (srtF n flt) [] = acc) := ⟨_, rfl⟩
        have HSR : Hid (srtL n flt L = acc.map fun A => A.getD 0 []) := Lib.hid (by unfold srtL; rw [HACC.out])
        have HSQ := Lib.hid (HSC.out K (by have := HKL.out; omega))
        rw [hE, HACC.out] at hQ HSA HSQ
        have HAL := Lib.hid hQ.len
        have hO0 := OwnCy.fresh wr rfl
        obtain ⟨B1, hB1⟩ : ∃ B1, B1 = wr.heap.size := ⟨_, rfl⟩
        have hqB : Below B1 wr wr := Below.refl _ _
        have hO0 : OwnCy (wr.alloc (.cells #[] 43)) B1 (some ⟨wr.heap.size, 0, none⟩) 0 0 [] [] := hO0.mono (by omega)
        have hqw := hB3.trans (hq.mono hB3.size)
        clear hE ht3 hp3
        go_wp2
        go_loopw [9, 10] (fun s10 i wr2 => ∃ (k : Nat) (a' : Option Addr) (c2 : Nat) (us2 : List TV), k ≤ N ∧ i = .int .i64 k ∧ s10 = .slice a' k c2 ∧ OwnCy wr2 B1 a' k c2 us2 ((acc.map fun A => A.getD 0 []).take k) ∧ Below wr.heap.size wr wr2) (fun _ i _ => N - (intOf i).toNat)
        case atStart => exact ⟨0, _, 0, [], Nat.zero_le _, rfl, rfl, by simpa using hO0, below_al (Below.refl _ _) _⟩
        case round =>
          clear hO0
          obtain ⟨k, a', c2, us2, hk, rfl, rfl, hO, hq2⟩ := hrel
          by_cases hlk : k < N
          · have hQ2 := hQ.below hq2
            obtain ⟨b, off, e1, _, gk⟩ := hQ2.hd.2 k hlk
            cases e1
            obtain ⟨hel, _⟩ := hQ2.el k hlk
            obtain ⟨⟨va, vn, vc⟩, HV⟩ : ∃ v, Hid (vs.getD k svO = v) := ⟨_, rfl⟩
            rw [HV.out] at gk hel
            change wr.cell? _ = some (.slice va vn vc) at gk
            rw [Nat.zero_add] at gk
            obtain ⟨A, HA⟩ : ∃ A, Hid (acc.getD k [] = A) := ⟨_, rfl⟩
            rw [HA.out] at hel
            have hshA : Shp 1 n A := by
              have hk' : k < acc.length := by have := HAL.out; omega
              rw [← HA.out, List.getD_eq_getElem?_getD, List.getElem?_eq_getElem hk', Option.getD_some]
              exact HSA.out _ (List.getElem_mem hk')
            obtain rfl : 1 = vn := by have := hel.len; rw [hshA.1] at this; exact this.symm
            obtain ⟨b3, o3, a3, n3, c3, e3, g3, t3, l3⟩ := hel.at 0 Nat.zero_lt_one
            have e3' : va = some ⟨b3, o3, none⟩ := e3
            subst e3'
            have g3' : wr.cell? ⟨b3, o3, none⟩ = some (.slice a3 n3 c3) := g3
            have hk' : k < acc.length := by have := HAL.out; omega
            obtain ⟨i, hiL, hAi⟩ := HSQ.out A (by
              rw [← HA.out, List.getD_eq_getElem?_getD, List.getElem?_eq_getElem hk', Option.getD_some]
              exact List.getElem_mem hk')
            have hrw := HRP.out i hiL
            obtain ⟨t, HT⟩ : ∃ t, Hid (L.getD i [] = t) := ⟨_, rfl⟩
            rw [HT.out] at hAi hrw
            have ht0 : A.getD 0 [] = t := by rw [hAi]; rfl
            rw [ht0] at t3
            obtain rfl : n = n3 := by have := t3.len; rw [hrw.1] at this; exact this.symm
            have HLN : Hid (∀ x ∈ t, x.length ≤ 1000000) := Lib.hid fun x hx => by
              obtain ⟨q, hq, rfl⟩ := List.getElem_of_mem hx
              have := (hrw.2 q (by rw [← hrw.1]; exact hq)).len
              rw [List.getD_eq_getElem?_getD, List.getElem?_eq_getElem hq, Option.getD_some] at this
              omega
            have HTK : Hid ((acc.map fun A => A.getD 0 []).take (k + 1) = (acc.map fun A => A.getD 0 []).take k ++ [t]) := Lib.hid (by
              rw [List.take_succ_eq_append_getElem (by simpa using hk')]
              congr 1
              rw [List.getElem_map]
              have := HA.out
              rw [List.getD_eq_getElem?_getD, List.getElem?_eq_getElem hk', Option.getD_some] at this
              rw [this, ht0])
            have HOU := Lib.hid hO.uHi
            have j1 : (0 : Int) ≤ (k : Int) := by omega
            have j2 : (k : Int) < (N : Int) := by omega
            have hzq := hq2.size
            have hwz := hqw.size
            clear hshA hel hAi hrw ht0 g3
            go_wp2_with fail
            refine (l01Own2_any _ _ _ t _ t3 (by omega) HLN.out).mono ?_
            rintro e w5 ⟨a5, c5, vs5, rfl, ho5, hb5⟩
            have hz5 := hb5.size
            have hO5 := hO.below hb5
            have ho5' : OwnT w5 B1 a5 n c5 vs5 t := ho5.mono (by omega)
            have HAP : Hid (∀ q, TblS a5 n vs5 q → ¬ TTS a' k us2 q) := Lib.hid fun q h1 h2 => by have := ho5.uLo q h1; have := HOU.out q h2; omega
            go_wp2_with (at_builtin; refine appCy rfl rfl hO5 rfl ho5' HAP.out rfl (by omega) (by omega) ?_; intro g' cc w8 hO8 hg8 hat8 hb8)
            go_roundw
            case rel => exact ⟨k + 1, _, cc, _, by omega, by go_num, rfl, by rw [HTK.out]; exact hO8, (below_th hq2 hb5).trans (by rw [← hB1]; exact hb8)⟩
            case measure => simp [intOf]; omega
          · obtain rfl : N = k := by omega
            go_wp2
            go_ret2
            exact ⟨a', N, c2, us2, rfl, by rw [← HKK.out, HSR.out]; rw [List.take_of_length_le (by simp; have := HAL.out; omega)] at hO; exact hO.mono (by have := hqw.size; omega), hqw.trans (hq2.mono hqw.size)⟩
  · have hq : acyF x = ([], 2) := by unfold acyF; rw [if_neg h]
    rw [hq]
    have hd : (decide ((1 : Int) ≤ x) && decide (x ≤ 4)) = false := by simp; omega
    rw [hd] at hin
    have HIN := Lib.hid hin
    clear hin hd hq
    go_enter Try.func13, Try.ntmps13
    go_wp2_with fail
    refine (HIN.out _).mono ?_
    rintro e w1 ⟨rfl, rfl⟩
    go_wp2
    go_ret2
    exact ⟨none, 0, 0, [], rfl, OwnCy.nil _ _, Below.refl _ _⟩

set_option maxHeartbeats 16000000 in
theorem impl_Acy_l (x : Int) (w : World) (hx : I64 x) :
    Calls Try.prog 12 #[.int .i64 x] w (RetLCy w (acyF x).1 (acyF x).2) := by
  have hin := fun w => within_any x 1 4 w
  by_cases h : 1 ≤ x ∧ x ≤ 4
  · obtain ⟨n, rfl⟩ : ∃ n : Nat, x = n := ⟨x.toNat, by omega⟩
    have h1 : 1 ≤ n := by omega
    have h4 : n ≤ 4 := by omega
    obtain ⟨KK, HKK⟩ : ∃ KK, Hid ((rowL n (cycR n)).filter (lstB n) = KK) := ⟨_, rfl⟩
    have hqa : acyF n = (KK, 0) := by unfold acyF; rw [if_pos h, Int.toNat_natCast, HKK.out]
    rw [hqa]
    have hd : (decide ((1 : Int) ≤ n) && decide ((n : Int) ≤ 4)) = true := by simp; omega
    rw [hd] at hin
    have HIN := Lib.hid hin
    clear hin hd h hqa
    obtain ⟨L, HLL⟩ : ∃ L, Hid (rowL n (cycR n) = L) := ⟨_, rfl⟩
    rw [HLL.out] at HKK
    go_enter Try.func12, Try.ntmps12
    go_wp2_with fail
    refine (HIN.out _).mono ?_
    rintro e w1 ⟨rfl, rfl⟩
    go_wp2_with fail
    refine (rowTables_any n _ _ (cycR n) _ h1 h4 (cycleRows_fit h4)).mono ?_
    rintro e w1 ⟨a1, K, c1, us, rfl, ht1, hb1⟩
    have hz1 := hb1.size
    have HKL := Lib.hid ht1.len
    have HFS := Lib.hid (fun k (h : k < (rowL n (cycR n)).length) => filter_take_succ (lstB n) (rowL n (cycR n)) [] h)
    have HRP := Lib.hid (fun i (hi : i < (rowL n (cycR n)).length) => rowL_rwsP h1 h4 (fits := (cycR n)) hi)
    have HAL : Hid ((rowL n (cycR n)).take K = rowL n (cycR n)) := Lib.hid (by rw [HKL.out, List.take_length])
    have hKc : K ≤ 9223372036854775807 := by have := ht1.cap; omega
    have hKb : K ≤ 1000000 := by
      have h := rowG_bd (prmL n) (cycR n) n []
      have e1 := prm_bd h1 h4
      have e2 : (prmL n).length ^ n ≤ 24 ^ n := Nat.pow_le_pow_left e1.1 n
      have e3 : (24 : Nat) ^ n ≤ 24 ^ 4 := Nat.pow_le_pow_right (by omega) h4
      have e4 : (24 : Nat) ^ 4 ≤ 1000000 := by decide
      have e5 := HKL.out
      unfold rowL at e5
      omega
    rw [HLL.out] at HKL HFS HRP HAL ht1
    go_wp2
    go_loopw [4, 6, 13] (fun s3 _ i wr => ∃ (j : Nat) (a' : Option Addr) (m c' : Nat) (us' : List TV), j ≤ K ∧ i = .int .i64 j ∧ s3 = .slice a' m c' ∧ OwnCy wr w.heap.size a' m c' us' ((L.take j).filter (lstB n)) ∧ OwnTT wr w.heap.size a1 K c1 us L ∧ Hid (∀ g, a' = some ⟨g, 0, none⟩ → ¬ TTS a1 K us g) ∧ Hid (∀ i, i < m → ∃ j', j' < j ∧ us'.getD i tvO = us.getD j' tvO) ∧ m ≤ j ∧ Below w.heap.size w wr) (fun _ _ i _ => K - (intOf i).toNat)
    case atStart => exact ⟨0, none, 0, 0, [], Nat.zero_le _, rfl, rfl, OwnCy.nil _ _, ht1, Lib.hid (fun g h => by cases h), Lib.hid (fun i h => absurd h (by omega)), Nat.le_refl _, hb1⟩
    case round =>
      obtain ⟨j, a', m, c', us', hj, rfl, rfl, hR, hT, HA, HU, hmj, hq⟩ := hrel
      by_cases hlt : j < K
      · obtain ⟨g1, rfl, hg1, hcell, _⟩ := hT.cells (by omega)
        have cj := hcell j hlt
        have hv := hT.tab j hlt
        obtain ⟨⟨⟨va, vn, vc⟩, vv⟩, HV⟩ : ∃ u, Hid (us.getD j tvO = u) := ⟨_, rfl⟩
        rw [HV.out] at cj hv
        change wr.cell? _ = some (.slice va vn vc) at cj
        have hrp := HRP.out j (by have := HKL.out; omega)
        have hl5 : n = vn := by have := OwnT.len hv; rw [hrp.1] at this; exact this.symm
        subst hl5
        have HSQ := Lib.hid hrp.sq
        have i1 : (0 : Int) ≤ (j : Int) := by omega
        have i2 : (j : Int) < (K : Int) := by omega
        have HF := Lib.hid (HFS.out j (by have := HKL.out; omega))
        obtain ⟨t, HTT⟩ : ∃ t, Hid (L.getD j [] = t) := ⟨_, rfl⟩
        rw [HTT.out] at HF HSQ hv
        clear hcell hrp
        cases hb : lstB n t with
        | true =>
          have HF1 : Hid ((L.take (j + 1)).filter (lstB n) = (L.take j).filter (lstB n) ++ [t]) := Lib.hid (by rw [HF.out, hb]; rfl)
          have HBB := Lib.hid hb
          clear hb
          go_wp2_with fail
          refine (isLeast_any n va vc t wr h1 h4 (OwnT.tbl hv) HSQ.out).mono ?_
          rintro e w3 ⟨rfl, hb3⟩
          rw [HBB.out]
          have hR3 := hR.below hb3
          have hT3 := hT.below hb3
          have hv3 : OwnT w3 w.heap.size va n vc vv t := OwnT.below hv hb3
          have hz3 : w.heap.size ≤ w3.heap.size := Nat.le_trans hq.size hb3.size
          have HAP : Hid (∀ q, TblS va n vv q → ¬ TTS a' m us' q) := Lib.hid fun q h1 h2 => by
            have h3 : TvS (us.getD j tvO) q := by rw [HV.out]; exact h1
            rcases h2 with h2 | ⟨i, hi, h2⟩
            · exact HA.out q h2 (.inr ⟨j, hlt, h3⟩)
            · obtain ⟨j', hj', e⟩ := HU.out i hi
              rw [e] at h2
              exact hT.pw j' j (by omega) hlt (by omega) q h2 h3
          have HUL := Lib.hid hR.ulen
          have HHI := Lib.hid hT.uHi
          go_wp2_with (at_builtin; refine appCy rfl rfl hR3 rfl hv3 HAP.out rfl (by omega) hz3 ?_; intro g' cc w8 hO hg8 hat8 hb8)
          go_roundw
          case rel =>
            refine ⟨j + 1, _, m + 1, cc, _, by omega, by go_num, rfl, by rw [HF1.out]; exact hO, hT3.keep (fun g hg hlt => hg8.block g hlt (fun e => HA.out g (hR3.ownBlk e.symm) hg)), Lib.hid (fun g h => ?_), Lib.hid (fun i hi => ?_), by omega, (hq.trans (hb3.mono hq.size)).trans hb8⟩
            · cases h
              rcases hat8 with h2 | h2
              · exact HA.out _ (hR3.ownBlk h2)
              · intro h3; have := HHI.out _ h3; have := hb3.size; omega
            · by_cases e : i < m
              · obtain ⟨j', hj', e'⟩ := HU.out i e
                exact ⟨j', by omega, by rw [← e']; simp [List.getD_eq_getElem?_getD, List.getElem?_append_left (show i < us'.length by have := HUL.out; omega)]⟩
              · obtain rfl : i = m := by omega
                exact ⟨j, by omega, by rw [HV.out, ← HUL.out]; simp [List.getD_eq_getElem?_getD]⟩
          case measure => simp [intOf]; omega
        | false =>
          have HF1 : Hid ((L.take (j + 1)).filter (lstB n) = (L.take j).filter (lstB n)) := Lib.hid (by rw [HF.out, hb]; simp)
          have HBB := Lib.hid hb
          clear hb
          go_wp2_with fail
          refine (isLeast_any n va vc t wr h1 h4 (OwnT.tbl hv) HSQ.out).mono ?_
          rintro e w3 ⟨rfl, hb3⟩
          rw [HBB.out]
          go_wp2
          go_roundw
          case rel => exact ⟨j + 1, a', m, c', us', by omega, by go_num, rfl, by rw [HF1.out]; exact hR.below hb3, hT.below hb3, HA, Lib.hid (fun i hi => by obtain ⟨j', h1, h2⟩ := HU.out i hi; exact ⟨j', by omega, h2⟩), by omega, hq.trans (hb3.mono hq.size)⟩
          case measure => simp [intOf]; omega
      · obtain rfl : K = j := by omega
        go_wp2
        go_ret2
        exact ⟨a', m, c', us', rfl, by rw [HAL.out, HKK.out] at hR; exact hR, hq⟩
  · have hq : acyF x = ([], 2) := by unfold acyF; rw [if_neg h]
    rw [hq]
    have hd : (decide ((1 : Int) ≤ x) && decide (x ≤ 4)) = false := by simp; omega
    rw [hd] at hin
    have HIN := Lib.hid hin
    clear hin hd hq
    go_enter Try.func12, Try.ntmps12
    go_wp2_with fail
    refine (HIN.out _).mono ?_
    rintro e w1 ⟨rfl, rfl⟩
    go_wp2
    go_ret2
    exact ⟨none, 0, 0, [], rfl, OwnCy.nil _ _, Below.refl _ _⟩
end Go.Proofs.Ythgafpeblpnolaa
