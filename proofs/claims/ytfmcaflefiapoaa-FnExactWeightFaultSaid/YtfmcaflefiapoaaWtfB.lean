/-
  WeightFault: what the program's and the reference's compute.
  No condition but bounds.
-/
import Derived.Test.YtfmcaflefiapoaaWtFS
namespace Go.Proofs.Ytfmcaflefiapoaa
set_option maxRecDepth 100000
set_option linter.unusedVariables false
set_option linter.unusedSimpArgs false
open Go.RowKit

def wtfP (n : Nat) (f g M : List (List Int)) (m : Int) : List Int × Int := if wtFlt n f g M m = [] then ([], 4) else (wtFlt n f g M m, 0)
theorem wtfP_nil {n : Nat} {f g M : List (List Int)} {m : Int} (h : wtFlt n f g M m = []) : wtfP n f g M m = ([], 4) := if_pos h
theorem wtfP_some {n : Nat} {f g M : List (List Int)} {m : Int} (h : ¬ wtFlt n f g M m = []) : wtfP n f g M m = (wtFlt n f g M m, 0) := if_neg h
/-- what WeightFault hands back -/
def wtfF (f g : List (List Int)) (m : Int) (M : List (List Int)) : List Int × Int := if isSol f g then (if isMx f.length m M then wtfP f.length f g M m else ([], 2)) else ([], 1)
theorem Wtf_len (f g : List (List Int)) (m : Int) (M : List (List Int)) : List.length (wtfF f g m M).1 ≤ 1000000 := by
  have := fltL_len f.length (wtBad f.length f g M m)
  unfold wtfF
  split
  · split
    · unfold wtfP
      split
      · simp
      · show (wtFlt f.length f g M m).length ≤ _; unfold wtFlt; omega
    · simp
  · simp
theorem ck2_zero {f g : List (List Int)} {n : Nat} {m : Int} {M : List (List Int)} {r : Int} (hr : (if isSol f g then (if isMx n m M then 0 else 2) else 1) = r) (hz : r = 0) : isSol f g = true ∧ isMx n m M = true := by
  by_cases q1 : isSol f g = true
  · rw [if_pos q1] at hr
    by_cases q2 : isMx n m M = true
    · exact ⟨q1, q2⟩
    · rw [if_neg q2] at hr; omega
  · rw [if_neg q1] at hr; omega
theorem wtfF_no {f g : List (List Int)} {n : Nat} {m : Int} {M : List (List Int)} {r : Int} (hn : n = f.length) (hr : (if isSol f g then (if isMx n m M then 0 else 2) else 1) = r) (hz : ¬ r = 0) : wtfF f g m M = ([], r) := by
  unfold wtfF
  rw [← hn, ← hr]
  by_cases q1 : isSol f g = true
  · rw [if_pos q1, if_pos q1]
    by_cases q2 : isMx n m M = true
    · rw [if_pos q1, if_pos q2] at hr; exact absurd hr.symm hz
    · rw [if_neg q2, if_neg q2]
  · rw [if_neg q1, if_neg q1]
theorem wtfF_yes {f g : List (List Int)} {n : Nat} {m : Int} {M : List (List Int)} (hn : n = f.length) (q1 : isSol f g = true) (q2 : isMx n m M = true) : wtfF f g m M = wtfP n f g M m := by
  unfold wtfF; rw [if_pos q1, ← hn, if_pos q2]

set_option maxHeartbeats 1000000 in
theorem impl_Wtf_l (a : Option Addr) (n c : Nat) (f : List (List Int)) (a' : Option Addr) (n' c' : Nat) (g : List (List Int)) (m : Int) (am : Option Addr) (nm cm : Nat) (M : List (List Int)) (w : World) (h1 : Sol w a n f a' n' g) (hm : n ≤ 9223372036854775807 ∧ n' ≤ 9223372036854775807) (hi : I64 m) (h5 : Tbl w am nm M) (hnm : nm ≤ 9223372036854775807) :
    Calls Try.prog 28 #[sAgg a n c a' n' c', .int .i64 m, .slice am nm cm] w (RetR w (wtfF f g m M).1 (wtfF f g m M).2) := by
  obtain ⟨hm1, hm2⟩ := hm
  have hA := Loc.new w rfl #[.slice a n c, .slice a' n' c'] 33
  have hfl := h1.f.len
  obtain ⟨r, hr⟩ : ∃ r : Int, (if isSol f g then (if isMx n m M then 0 else 2) else 1) = r := ⟨_, rfl⟩
  have HCK := Lib.hid (fun w (h1 : Tbl w a n f) (h2 : Tbl w a' n' g) (h5 : Tbl w am nm M) => checkWeight_any a n c a' n' c' f g m am nm cm M w h1 h2 hm1 hm2 h5 hnm r hr)
  by_cases hz : r = 0
  · obtain ⟨q1, q2⟩ := ck2_zero hr hz
    subst hz
    rw [wtfF_yes hfl q1 q2]
    obtain ⟨hn1, hn12, sf, sg⟩ := isSol_sq q1
    rw [← hfl] at hn12
    obtain ⟨hmm, hM⟩ := isMx_sq q2
    have hl2 : n' = n := by rw [h1.s.len]; have := sg.len; omega
    have hl3 : nm = n := by rw [h5.len]; exact hM.1
    subst hl2 hl3
    have H1 := Lib.hid q1; have HM := Lib.hid hM; have HMM := Lib.hid hmm
    clear hr q1 q2 sf sg hM hmm hfl
    by_cases hL0 : wtFlt nm f g M m = []
    · rw [wtfP_nil hL0]
      have HL0 := Lib.hid hL0
      clear hL0
      go_enter Try.func28, Try.ntmps28
      go_wp2_with fail
      refine (HCK.out _ (h1.f.alloc _) (h1.s.alloc _) (h5.alloc _)).mono ?_
      rintro e w1 ⟨rfl, hb1⟩
      have lA := (hA.below hb1 (by simp)).two
      have hB1 := below_alth (Below.refl _ _) hb1
      go_wp2_with fail
      refine (weightFault_any _ _ _ _ _ f g m _ _ M _ ((h1.f.alloc _).below hb1) ((h1.s.alloc _).below hb1) H1.out HMM.out HM.out ((h5.alloc _).below hb1)).mono ?_
      have nn := fun (w : World) (a : Option Addr) (n c : Nat) => Lib.run_eql_slice_nil (P := Try.prog) w 25 2 a n c 0 0 und_ints
      rintro e w2 ⟨he, hb2⟩
      rcases he with ⟨_, rfl⟩ | ⟨hL, _⟩
      · go_wp2
        go_ret2
        exact ⟨none, 0, 0, rfl, Own.nil _ _, below_th hB1 hb2⟩
      · exact absurd HL0.out hL
    · rw [wtfP_some hL0]
      have HL0 := Lib.hid hL0
      clear hL0
      go_enter Try.func28, Try.ntmps28
      go_wp2_with fail
      refine (HCK.out _ (h1.f.alloc _) (h1.s.alloc _) (h5.alloc _)).mono ?_
      rintro e w1 ⟨rfl, hb1⟩
      have lA := (hA.below hb1 (by simp)).two
      have hB1 := below_alth (Below.refl _ _) hb1
      go_wp2_with fail
      refine (weightFault_any _ _ _ _ _ f g m _ _ M _ ((h1.f.alloc _).below hb1) ((h1.s.alloc _).below hb1) H1.out HMM.out HM.out ((h5.alloc _).below hb1)).mono ?_
      have nn := fun (w : World) (a : Option Addr) (n c : Nat) => Lib.run_eql_slice_nil (P := Try.prog) w 25 2 a n c 0 0 und_ints
      rintro e w2 ⟨he, hb2⟩
      rcases he with ⟨hL, _⟩ | ⟨_, b, k, rfl, hof⟩
      · exact absurd hL HL0.out
      · have HO := Lib.hid (hof.mono hB1.size)
        clear hof
        go_wp2
        go_ret2
        exact ⟨_, _, _, rfl, HO.out, below_th hB1 hb2⟩
  · rw [wtfF_no hfl hr hz]
    have hb : (r != 0) = true := by simpa using hz
    clear hr hz hfl
    go_enter Try.func28, Try.ntmps28
    go_wp2_with fail
    (with_reducible refine (HCK.out _ (h1.f.alloc _) (h1.s.alloc _) (h5.alloc _)).mono ?_)
    rintro e w1 ⟨rfl, hb1⟩
    go_wp2
    go_ret2
    exact ⟨none, 0, 0, rfl, Own.nil _ _, below_alth (Below.refl _ _) hb1⟩

set_option maxHeartbeats 1000000 in
theorem spec_Wtf_l (a : Option Addr) (n c : Nat) (f : List (List Int)) (a' : Option Addr) (n' c' : Nat) (g : List (List Int)) (m : Int) (am : Option Addr) (nm cm : Nat) (M : List (List Int)) (w : World) (h1 : Sol w a n f a' n' g) (hm : n ≤ 9223372036854775807 ∧ n' ≤ 9223372036854775807) (hi : I64 m) (h5 : Tbl w am nm M) (hnm : nm ≤ 9223372036854775807) :
    Calls Try.prog 27 #[sAgg a n c a' n' c', .int .i64 m, .slice am nm cm] w (RetR w (wtfF f g m M).1 (wtfF f g m M).2) := by
  obtain ⟨hm1, hm2⟩ := hm
  have hA := Loc.new w rfl #[.slice a n c, .slice a' n' c'] 33
  have hfl := h1.f.len
  obtain ⟨r, hr⟩ : ∃ r : Int, (if isSol f g then (if isMx n m M then 0 else 2) else 1) = r := ⟨_, rfl⟩
  have HCK := Lib.hid (fun w (h1 : Tbl w a n f) (h2 : Tbl w a' n' g) (h5 : Tbl w am nm M) => l18Code_any a n c a' n' c' f g m am nm cm M w h1 h2 hm1 hm2 h5 hnm r hr)
  by_cases hz : r = 0
  · obtain ⟨q1, q2⟩ := ck2_zero hr hz
    subst hz
    rw [wtfF_yes hfl q1 q2]
    obtain ⟨hn1, hn12, sf, sg⟩ := isSol_sq q1
    rw [← hfl] at hn12
    obtain ⟨hmm, hM⟩ := isMx_sq q2
    have hl2 : n' = n := by rw [h1.s.len]; have := sg.len; omega
    have hl3 : nm = n := by rw [h5.len]; exact hM.1
    subst hl2 hl3
    have H1 := Lib.hid q1; have HM := Lib.hid hM; have HMM := Lib.hid hmm
    clear hr q1 q2 sf sg hM hmm hfl
    by_cases hL0 : wtFlt nm f g M m = []
    · rw [wtfP_nil hL0]
      have HL0 := Lib.hid hL0
      clear hL0
      go_enter Try.func27, Try.ntmps27
      go_wp2_with fail
      refine (HCK.out _ (h1.f.alloc _) (h1.s.alloc _) (h5.alloc _)).mono ?_
      rintro e w1 ⟨rfl, hb1⟩
      have lA := (hA.below hb1 (by simp)).two
      have hB1 := below_alth (Below.refl _ _) hb1
      go_wp2_with fail
      refine (l18Fault_any _ _ _ _ _ f g m _ _ M _ ((h1.f.alloc _).below hb1) ((h1.s.alloc _).below hb1) H1.out HMM.out HM.out ((h5.alloc _).below hb1)).mono ?_
      rintro e w2 ⟨af, kf, cf, rfl, hof, hb2⟩
      have hkl := hof.len
      rw [HL0.out] at hkl
      obtain rfl : kf = 0 := hkl
      clear hof
      go_wp2
      go_ret2
      exact ⟨none, 0, 0, rfl, Own.nil _ _, below_th hB1 hb2⟩
    · rw [wtfP_some hL0]
      have HL0 := Lib.hid hL0
      clear hL0
      go_enter Try.func27, Try.ntmps27
      go_wp2_with fail
      refine (HCK.out _ (h1.f.alloc _) (h1.s.alloc _) (h5.alloc _)).mono ?_
      rintro e w1 ⟨rfl, hb1⟩
      have lA := (hA.below hb1 (by simp)).two
      have hB1 := below_alth (Below.refl _ _) hb1
      go_wp2_with fail
      refine (l18Fault_any _ _ _ _ _ f g m _ _ M _ ((h1.f.alloc _).below hb1) ((h1.s.alloc _).below hb1) H1.out HMM.out HM.out ((h5.alloc _).below hb1)).mono ?_
      rintro e w2 ⟨af, kf, cf, rfl, hof, hb2⟩
      have hkl := hof.len
      have hk0 : ¬ kf = 0 := fun h => HL0.out (List.eq_nil_of_length_eq_zero (by omega))
      have hb0 : ((kf : Int) == 0) = false := by simp; omega
      have HO := Lib.hid (hof.mono hB1.size)
      clear hkl hof hk0
      go_wp2
      go_ret2
      exact ⟨_, _, _, rfl, HO.out, below_th hB1 hb2⟩
  · rw [wtfF_no hfl hr hz]
    have hb : (r != 0) = true := by simpa using hz
    clear hr hz hfl
    go_enter Try.func27, Try.ntmps27
    go_wp2_with fail
    (with_reducible refine (HCK.out _ (h1.f.alloc _) (h1.s.alloc _) (h5.alloc _)).mono ?_)
    rintro e w1 ⟨rfl, hb1⟩
    go_wp2
    go_ret2
    exact ⟨none, 0, 0, rfl, Own.nil _ _, below_alth (Below.refl _ _) hb1⟩

end Go.Proofs.Ytfmcaflefiapoaa
