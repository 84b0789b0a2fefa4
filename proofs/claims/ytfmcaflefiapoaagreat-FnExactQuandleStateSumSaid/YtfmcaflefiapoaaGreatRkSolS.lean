/-
  The solution of a rack, and whether a matrix is a quandle weight: what the reference's functions compute.
  No condition but bounds on lengths.
-/
import Derived.Test.YtfmcaflefiapoaaGreatRkSolL
import Derived.Test.YtfmcaflefiapoaaGreatOwn2
import Derived.Test.YtfmcaflefiapoaaGreatRackS
import Derived.Test.YtfmcaflefiapoaaGreatWtFS
import Derived.Test.YtfmcaflefiapoaaGreatUR
import Derived.Test.YtfmcaflefiapoaaGreatBase
namespace Go.Proofs.YtfmcaflefiapoaaGreat
set_option maxRecDepth 100000
set_option linter.unusedVariables false
set_option linter.unusedSimpArgs false
open Go.RowKit

def cstR (n k : Nat) : List Int := (List.range n).map fun _ => (k : Int)
theorem cstR_len (n k : Nat) : (cstR n k).length = n := by simp [cstR]
theorem cstR_succ {n k j : Nat} (h : j < n) : (cstR n k).take (j + 1) = (cstR n k).take j ++ [(k : Int)] := by
  rw [List.take_succ_eq_append_getElem (by rw [cstR_len]; exact h)]; simp [cstR]
theorem cstL_succ {n k : Nat} (h : k < n) : (cstL n).take (k + 1) = (cstL n).take k ++ [cstR n k] := by
  have hl : k < (cstL n).length := by unfold cstL; rw [tabF_len]; exact h
  rw [List.take_succ_eq_append_getElem hl]
  have e := tabF_get n (fun x _ => (x : Int)) k h
  have e2 := Tbl.getD hl
  unfold cstL at *
  rw [← e2, e]; rfl

set_option maxHeartbeats 4000000 in
theorem l03Solution_any (a : Option Addr) (n c : Nat) (f : List (List Int)) (w : World) (h : Tbl w a n f) (hf : Sq n f) (hn1 : 1 ≤ n) (hn : n ≤ 12) :
    Calls Tryz.prog 26 #[rAgg a n c] w fun e w' => ∃ a1 c1 vs a1' c1' vs', e = .returned (sAgg a1 n c1 a1' n c1') ∧ OwnS w' w.heap.size a1 n c1 vs f a1' n c1' vs' (cstL n) ∧ Below w.heap.size w w' := by
  have hA := (Loc.new w rfl #[.slice a n c] 33).alloc (.cells #[.slice none 0 0, .slice none 0 0] 52)
  have hR := Loc.new (w.alloc (.cells #[.slice a n c] 33)) rfl #[.slice none 0 0, .slice none 0 0] 52
  rw [size_alloc] at hR
  have hB := below_al (below_al (Below.refl w.heap.size w) (.cells #[.slice a n c] 33)) (.cells #[.slice none 0 0, .slice none 0 0] 52)
  have hlen : ∀ x ∈ f, x.length ≤ 1000000 := fun x hx => by
    obtain ⟨i, hi, rfl⟩ := List.getElem_of_mem hx
    have := hf.row (show i < n by have := hf.len; omega)
    rw [Tbl.getD hi] at this; omega
  have HLEN := Lib.hid hlen; have HF := Lib.hid hf
  clear hlen hf
  go_enter Tryz.func26, Tryz.ntmps26
  have lA := hA.one
  go_wp2_with fail
  generalize (w.alloc (.cells #[.slice a n c] 33)).alloc (.cells #[.slice none 0 0, .slice none 0 0] 52) = w0 at *
  refine (l01Own2_any _ _ _ f _ (h.below hB) (by omega) HLEN.out).mono ?_
  rintro e w1 ⟨a1, c1, vs1, rfl, ho1, hb1⟩
  have hzr : w.heap.size + 1 < w0.heap.size := hR.lt
  have hz1 := hb1.size
  have hO := Loc.new w1 rfl #[.slice a1 n c1, .slice none 0 0] 52
  have hA1 := (hA.below hb1 hA.lt)
  have hR1 := (hR.below hb1 hR.lt)
  have hq0 : Below w1.heap.size w1 (w1.alloc (.cells #[.slice a1 n c1, .slice none 0 0] 52)) := below_al (Below.refl w1.heap.size w1) _
  have hB1 := below_th hB hb1
  have lA1 := (hA1.alloc (.cells #[.slice a1 n c1, .slice none 0 0] 52)).one
  clear hA hR hB lA hb1
  go_wp2
  clear lA1
  go_loopw [4] (fun i wr => ∃ (k : Nat) (az : Option Addr) (cz : Nat) (vz : List SV), k ≤ n ∧ i = .int .i64 k ∧ Loc wr w1.heap.size #[.slice a1 n c1, .slice az k cz] 52 ∧ OwnT wr (w1.heap.size + 1) az k cz vz ((cstL n).take k) ∧ Below w1.heap.size w1 wr) (fun i _ => n - (intOf i).toNat)
  case atStart => exact ⟨0, none, 0, [], Nat.zero_le _, rfl, hO, by simpa using OwnT.nil _ _, hq0⟩
  case round =>
    clear hO hq0
    obtain ⟨k, az, cz, vz, hk, rfl, hO, ho, hq⟩ := hrel
    have hAr := hA1.below hq hA1.lt
    have lA := hAr.one
    have hOlt := hO.lt
    by_cases hlt : k < n
    · have lA2 := (hAr.alloc (.cells #[] 2)).one
      have hE := Own.empty0 wr (lo := wr.heap.size) rfl (Nat.le_refl _)
      have hqe := below_al (Below.refl wr.heap.size wr) (.cells #[] 2)
      go_wp2
      clear lA lA2
      go_loopw [5, 6] (fun z i wq => ∃ (j : Nat) (ar : Option Addr) (cr : Nat), j ≤ n ∧ i = .int .i64 j ∧ z = .slice ar j cr ∧ Own wq wr.heap.size ar j cr ((cstR n k).take j) ∧ Below wr.heap.size wr wq) (fun _ i _ => n - (intOf i).toNat)
      case atStart => exact ⟨0, _, 0, Nat.zero_le _, rfl, rfl, by simpa using hE, hqe⟩
      case round =>
        clear hE hqe
        obtain ⟨j, ar, cr, hj, rfl, rfl, hor, hqr⟩ := hrel
        have hAq := hAr.below hqr hAr.lt
        have lA := hAq.one
        by_cases hjt : j < n
        · have HS := Lib.hid (cstR_succ (k := k) hjt)
          have hwq := hqr.size
          go_wp2_with (at_builtin; refine app1 rfl rfl hor rfl rfl (by omega) hwq ?_; intro g' cc w8 hOw hg8 hs8 hb8)
          go_roundw
          case rel => exact ⟨j + 1, _, _, by omega, by go_num, rfl, by rw [HS.out]; exact hOw, hqr.trans hb8⟩
          case measure => simp [intOf]; omega
        · obtain rfl : j = n := by omega
          rw [List.take_of_length_le (by rw [cstR_len]; exact Nat.le_refl _)] at hor
          have hO3 := hO.below hqr hO.lt
          have lO := hO3.two
          have lO' := (hO3.alloc (.cells #[.slice ar j cr] 25)).two
          have ho3 := ho.below hqr
          have HS := Lib.hid (cstL_succ hlt)
          have hwq := hqr.size
          go_wp2_with (at_builtin; refine appT1 rfl rfl ho3 rfl (hor.mono (by omega)) (fun g h1 h2 => by have h3 := ho.high _ h1; have h4 := hor.lo _ h2; omega) (fun i hi g h1 h2 => by have h3 := hor.lo _ h1; have h4 := (ho.row i hi).hi _ h2; omega) rfl (by omega) (by omega) ?_; intro g' cc w9 hOT hb9; have hO9 := hO3.below hb9 (by omega); have lO9 := hO9.two)
          have hset := hO9.set 1 (.slice (some ⟨g', 0, none⟩) (k + 1) cc)
          go_roundw
          case rel => exact ⟨k + 1, _, _, _, by omega, by go_num, hset, by rw [HS.out]; exact hOT.setlo (by show w1.heap.size < _; omega) _, below_setne ((hq.trans (hqr.mono (by omega))).trans (hb9.mono (by omega))) (by show _ ≤ w1.heap.size; omega) _⟩
          case measure => simp [intOf]; omega
    · obtain rfl : k = n := by omega
      rw [List.take_of_length_le (by unfold cstL; rw [tabF_len]; exact Nat.le_refl _)] at ho
      have lO := hO.two
      have hRr := hR1.below hq hR1.lt
      have lR := hRr.two
      have hT1 := ho1.below hq
      have hap : ∀ g, TblS a1 k vs1 g → ¬ TblS az k vz g := fun g h1 h2 => by have e1 := ho1.uHi g h1; have e2 := ho.uLo g h2; omega
      go_wp2
      refine bodyPost_ret (v := sAgg a1 k c1 az k cz) (by simp [results, Tryz.results26, go_sem, lR, lO]) rfl ⟨a1, c1, vs1, az, cz, vz, rfl, ⟨?_, ?_, hap⟩, ?_⟩
      · exact ((hT1.setlo (by show w.heap.size + 1 < w0.heap.size; omega) _).setlo (by show w.heap.size + 1 < w0.heap.size; omega) _).mono (by omega)
      · exact ((ho.setlo (by show w.heap.size + 1 < w1.heap.size + 1; omega) _).setlo (by show w.heap.size + 1 < w1.heap.size + 1; omega) _).mono (by omega)
      · exact below_setne (below_setne (hB1.trans (hq.mono hB1.size)) (by show w.heap.size ≤ w.heap.size + 1; omega) _) (by show w.heap.size ≤ w.heap.size + 1; omega) _

set_option maxHeartbeats 1000000 in
theorem l03Quandle_any (a : Option Addr) (n c : Nat) (t : List (List Int)) (w : World) (h : Tbl w a n t) (hf : Sq n t) (hn1 : 1 ≤ n) (hn : n ≤ 12) :
    Calls Tryz.prog 62 #[rAgg a n c] w fun e w' => e = .returned (.bool (qndOk n t)) ∧ Below w.heap.size w w' := by
  have hA := Loc.new w rfl #[.slice a n c] 33
  have hB := below_al (Below.refl w.heap.size w) (.cells #[.slice a n c] 33)
  obtain ⟨bf, of, A, O, C, rfl, gf⟩ := h.grid hf (by omega)
  clear h hf
  go_enter Tryz.func62, Tryz.ntmps62
  go_wp2
  generalize w.alloc (.cells #[.slice (some ⟨bf, of, none⟩) n c] 33) = w0 at *
  have lA := hA.one
  go_loop [3] (fun i => ∃ k : Nat, k ≤ n ∧ i = .int .i64 k ∧ Hid (∀ j, j < k → tv t j j = j)) (fun i => n - (intOf i).toNat)
  case atStart => exact ⟨0, Nat.zero_le _, rfl, Lib.hid fun j hj => absurd hj (by omega)⟩
  case round =>
    obtain ⟨k, hk, rfl, hI⟩ := hrel
    by_cases hlt : k < n
    · obtain ⟨r1, k1⟩ := (gf.below hB).look hlt hlt
      have HD : Hid (∀ V, tv t k k = V → (V ≠ k → qndOk n t = false)) := Lib.hid fun V hV h0 => allN_no hlt (decide_eq_false (by rw [hV]; exact h0))
      generalize hV : tv t k k = V at *
      have HV := Lib.hid hV
      clear hV
      by_cases h0 : V = k
      · subst h0
        have hb : (((V : Nat) : Int) != ((V : Nat) : Int)) = false := by simp
        go_wp2
        go_round
        case rel =>
          refine ⟨V + 1, by omega, by go_num, Lib.hid fun j hj => ?_⟩
          by_cases e : j = V
          · subst e; exact HV.out
          · exact hI.out j (by omega)
        case measure => simp [intOf]; omega
      · have hb : (((V : Nat) : Int) != ((k : Nat) : Int)) = true := by simp; omega
        have HDF := Lib.hid (HD.out V rfl h0)
        go_wp2
        go_ret
        exact ⟨ret_bool (by rw [HDF.out]), hB⟩
    · obtain rfl : k = n := by omega
      have HDT : Hid (qndOk k t = true) := Lib.hid (allN_mk fun x hx => decide_eq_true (hI.out x hx))
      go_wp2
      go_ret
      exact ⟨ret_bool (by rw [HDT.out]), hB⟩

set_option maxHeartbeats 4000000 in
theorem l18Quandle_any (a : Option Addr) (n c : Nat) (t : List (List Int)) (m : Int) (am : Option Addr) (cm : Nat) (M : List (List Int)) (w : World) (h : Tbl w a n t) (hrk : isRk t = true) (hmm : 1 ≤ m ∧ m ≤ 12) (hM : SqM n m.toNat M) (h5 : Tbl w am n M) :
    Calls Tryz.prog 39 #[rAgg a n c, .int .i64 m, .slice am n cm] w fun e w' => e = .returned (.bool (qwOk t m M)) ∧ Below w.heap.size w w' := by
  obtain ⟨hn1, hn12, hf⟩ := isTab_sq (isRk_parts hrk).1
  have hsol := rk_isSol hrk
  have htl := h.len
  have hqw : qwOk t m M = (diaOk n M && (qndOk n t && decide (wtFlt n t (cstL n) M m = []))) := by unfold qwOk; rw [← htl]
  rw [← htl] at hn1 hn12 hf hsol
  have HF := Lib.hid hf; have HSOL := Lib.hid hsol; have HQ := Lib.hid hqw; have HM := Lib.hid hM
  clear hf hsol hqw htl hrk hM
  obtain ⟨bM, oM, AM, OM, CM, rfl, gM⟩ := h5.gridM HM.out (by omega)
  have hA := Loc.new w rfl #[.slice a n c] 33
  have hB := below_al (Below.refl w.heap.size w) (.cells #[.slice a n c] 33)
  go_enter Tryz.func39, Tryz.ntmps39
  go_wp2
  generalize w.alloc (.cells #[.slice a n c] 33) = w0 at *
  go_loop [7] (fun i => ∃ k : Nat, k ≤ n ∧ i = .int .i64 k ∧ Hid (∀ j, j < k → tv M j j = 0)) (fun i => n - (intOf i).toNat)
  case atStart => exact ⟨0, Nat.zero_le _, rfl, Lib.hid fun j hj => absurd hj (by omega)⟩
  case round =>
    obtain ⟨k, hk, rfl, hI⟩ := hrel
    by_cases hlt : k < n
    · obtain ⟨r1, k1⟩ := (gM.below hB).look hlt hlt
      have HD : Hid (∀ V, tv M k k = V → (V ≠ 0 → diaOk n M = false)) := Lib.hid fun V hV h0 => allN_no hlt (decide_eq_false (by rw [hV]; exact h0))
      generalize hV : tv M k k = V at *
      have HV := Lib.hid hV
      clear hV
      by_cases h0 : V = 0
      · subst h0
        have hb : ((((0 : Nat) : Int)) != 0) = false := by simp
        go_wp2
        go_round
        case rel =>
          refine ⟨k + 1, by omega, by go_num, Lib.hid fun j hj => ?_⟩
          by_cases e : j = k
          · subst e; exact HV.out
          · exact hI.out j (by omega)
        case measure => simp [intOf]; omega
      · have hb : (((V : Nat) : Int) != 0) = true := by simp; omega
        have HDF := Lib.hid (HD.out V rfl h0)
        go_wp2
        go_ret
        exact ⟨ret_bool (by rw [HQ.out, HDF.out]; rfl), hB⟩
    · obtain rfl : k = n := by omega
      have HDT : Hid (diaOk k M = true) := Lib.hid (allN_mk fun x hx => decide_eq_true (hI.out x hx))
      have lA := hA.one
      clear hI
      go_wp2_with fail
      refine (l03Quandle_any _ _ _ t _ (h.below hB) HF.out hn1 hn12).mono ?_
      rintro e w1 ⟨rfl, hb1⟩
      have hB1 := below_th hB hb1
      have hA1 := hA.below hb1 hA.lt
      have lA1 := hA1.one
      cases hq : qndOk k t with
      | false =>
        have HQN := Lib.hid hq
        clear hq
        go_wp2
        go_ret
        exact ⟨ret_bool (by rw [HQ.out, HDT.out, HQN.out]; rfl), hB1⟩
      | true =>
        have HQN := Lib.hid hq
        clear hq
        go_wp2_with fail
        refine (l03Solution_any _ _ _ t _ (h.below hB1) HF.out hn1 hn12).mono ?_
        rintro e w3 ⟨a3, c3, vs3, a3', c3', vs3', rfl, ho3, hb3⟩
        have hB3 := below_th hB1 hb3
        go_wp2_with fail
        refine (l18Fault_any _ _ _ _ _ t (cstL k) m _ _ M _ ho3.f.tbl ho3.s.tbl HSOL.out hmm HM.out (h5.below hB3)).mono ?_
        rintro e w4 ⟨af, kf, cf, rfl, hof, hb4⟩
        have hB4 := below_th hB3 hb4
        have hkl := hof.len
        by_cases hk0 : kf = 0
        · have HL : Hid (decide (wtFlt k t (cstL k) M m = []) = true) := Lib.hid (decide_eq_true (List.eq_nil_of_length_eq_zero (by omega)))
          subst hk0
          clear hkl hof
          go_wp2
          go_ret
          exact ⟨ret_bool (by rw [HQ.out, HDT.out, HQN.out, HL.out]; rfl), hB4⟩
        · have HL : Hid (decide (wtFlt k t (cstL k) M m = []) = false) := Lib.hid (decide_eq_false (fun h => by rw [h] at hkl; exact hk0 hkl))
          have hb0 : ((kf : Int) == 0) = false := by simp; omega
          clear hkl hof hk0
          go_wp2
          go_ret
          exact ⟨ret_bool (by rw [HQ.out, HDT.out, HQN.out, HL.out]; rfl), hB4⟩

set_option maxHeartbeats 2000000 in
theorem spec_Iq_l (a : Option Addr) (n c : Nat) (t : List (List Int)) (m : Int) (am : Option Addr) (nm cm : Nat) (M : List (List Int)) (w : World) (h : Tbl w a n t) (hn : n ≤ 9223372036854775807) (hi : I64 m) (h5 : Tbl w am nm M) (hnm : nm ≤ 9223372036854775807) :
    Calls Tryz.prog 24 #[rAgg a n c, .int .i64 m, .slice am nm cm] w (RetO w (iqF t m M).1 (iqF t m M).2) := by
  have hA := Loc.new w rfl #[.slice a n c] 33
  have hB := below_al (Below.refl w.heap.size w) (.cells #[.slice a n c] 33)
  have HFL := Lib.hid h.len
  go_enter Tryz.func24, Tryz.ntmps24
  go_wp2_with fail
  generalize w.alloc (.cells #[.slice a n c] 33) = w0 at *
  have lA := hA.one
  refine (l03Is_any _ _ _ t _ (h.below hB) hn).mono ?_
  rintro e w1 ⟨rfl, hb1⟩
  replace hB := below_th hB hb1; replace hA := hA.below hb1 hA.lt; replace lA := hA.one
  cases q0 : isRk t with
  | false =>
    have HQ : Hid (iqF t m M = (false, 1)) := Lib.hid (iqF_0 q0)
    clear q0
    go_wp2
    go_ret2
    exact ⟨by rw [HQ.out]; rfl, hB⟩
  | true =>
  have HR := Lib.hid q0
  clear q0
  cases q1 : isMx n m M with
  | false =>
    have HQ : Hid (iqF t m M = (false, 2)) := Lib.hid (iqF_1 HR.out (by rw [← HFL.out]; exact q1))
    have HK : Hid ((if isMx n m M then 0 else 2) = (2 : Int)) := Lib.hid (by rw [q1]; rfl)
    clear q1
    go_wp2_with fail
    refine (l14Code_any _ _ _ _ _ M _ (h5.below hB) hnm _ HK.out).mono ?_
    rintro e w2 ⟨rfl, rfl⟩
    go_wp2
    go_ret2
    exact ⟨by rw [HQ.out]; rfl, hB⟩
  | true =>
  have HK : Hid ((if isMx n m M then 0 else 2) = (0 : Int)) := Lib.hid (by rw [q1]; rfl)
  go_wp2_with fail
  refine (l14Code_any _ _ _ _ _ M _ (h5.below hB) hnm _ HK.out).mono ?_
  rintro e w2 ⟨rfl, rfl⟩
  have HQ : Hid (iqF t m M = (qwOk t m M, 0)) := Lib.hid (iqF_2 HR.out (by rw [← HFL.out]; exact q1))
  obtain ⟨hmm, hM⟩ := isMx_sq q1
  clear q1
  obtain rfl : nm = n := by rw [h5.len]; exact hM.1
  have HMM := Lib.hid hmm; have HM := Lib.hid hM
  clear hmm hM
  go_wp2_with fail
  refine (l18Quandle_any _ _ _ t m _ _ M _ (h.below hB) HR.out HMM.out HM.out (h5.below hB)).mono ?_
  rintro e w3 ⟨rfl, hb3⟩
  go_wp2
  go_ret2
  exact ⟨by rw [HQ.out]; rfl, below_th hB hb3⟩

end Go.Proofs.YtfmcaflefiapoaaGreat
