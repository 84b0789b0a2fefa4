/-
  IsWeight: what the program's function answers.
  No condition but bounds.
-/
import Derived.Test.YtnlgmhckjpifiaaGreatBase5
namespace Go.Proofs.YtnlgmhckjpifiaaGreat
set_option maxRecDepth 100000
set_option linter.unusedVariables false
set_option linter.unusedSimpArgs false
open Go.RowKit

/-- what IsWeight hands back -/
def iswF (f g : List (List Int)) (m : Int) (M : List (List Int)) : Bool × Int := if isSol f g then (if isMx f.length m M then (decide (wtFlt f.length f g M m = []), 0) else (false, 2)) else (false, 1)

set_option maxHeartbeats 1000000 in
theorem impl_Isw_l (a : Option Addr) (n c : Nat) (f : List (List Int)) (a' : Option Addr) (n' c' : Nat) (g : List (List Int)) (m : Int) (am : Option Addr) (nm cm : Nat) (M : List (List Int)) (w : World) (h1 : Sol w a n f a' n' g) (hm : n ≤ 9223372036854775807 ∧ n' ≤ 9223372036854775807) (hi : I64 m) (h5 : Tbl w am nm M) (hnm : nm ≤ 9223372036854775807) :
    Calls Tryz.prog 27 #[sAgg a n c a' n' c', .int .i64 m, .slice am nm cm] w (RetO w (iswF f g m M).1 (iswF f g m M).2) := by
  obtain ⟨hm1, hm2⟩ := hm
  have hA := Loc.new w rfl #[.slice a n c, .slice a' n' c'] 29
  have hfl := h1.f.len
  obtain ⟨r, hr⟩ : ∃ r : Int, (if isSol f g then (if isMx n m M then 0 else 2) else 1) = r := ⟨_, rfl⟩
  have HCK := Lib.hid (fun w (h1 : Tbl w a n f) (h2 : Tbl w a' n' g) (h5 : Tbl w am nm M) => checkWeight_any a n c a' n' c' f g m am nm cm M w h1 h2 hm1 hm2 h5 hnm r hr)
  by_cases hz : r = 0
  · have hz2 : isSol f g = true ∧ isMx n m M = true := by
      by_cases q1 : isSol f g = true
      · rw [if_pos q1] at hr
        by_cases q2 : isMx n m M = true
        · exact ⟨q1, q2⟩
        · rw [if_neg q2] at hr; omega
      · rw [if_neg q1] at hr; omega
    subst hz
    obtain ⟨q1, q2⟩ := hz2
    have hq : iswF f g m M = (decide (wtFlt n f g M m = []), 0) := by unfold iswF; rw [if_pos q1, ← hfl, if_pos q2]
    rw [hq]
    obtain ⟨hn1, hn12, sf, sg⟩ := isSol_sq q1
    rw [← hfl] at hn12
    obtain ⟨hmm, hM⟩ := isMx_sq q2
    have hl2 : n' = n := by rw [h1.s.len]; have := sg.len; omega
    have hl3 : nm = n := by rw [h5.len]; exact hM.1
    subst hl2 hl3
    have H1 := Lib.hid q1; have HM := Lib.hid hM; have HMM := Lib.hid hmm
    clear hr q1 q2 hq sf sg hM hmm hfl
    go_enter Tryz.func27, Tryz.ntmps27
    go_wp2_with fail
    refine (HCK.out _ (h1.f.alloc _) (h1.s.alloc _) (h5.alloc _)).mono ?_
    rintro e w1 ⟨rfl, hb1⟩
    have lA := (hA.below hb1 (by simp)).two
    have nn := fun (w : World) (a : Option Addr) (n c : Nat) => Lib.run_eql_slice_nil (P := Tryz.prog) w 30 2 a n c 0 0 und_ints
    go_wp2_with fail
    refine (weightFault_any _ _ _ _ _ f g m _ _ M _ ((h1.f.alloc _).below hb1) ((h1.s.alloc _).below hb1) H1.out HMM.out HM.out ((h5.alloc _).below hb1)).mono ?_
    rintro e w2 ⟨he, hb2⟩
    rcases he with ⟨hL, rfl⟩ | ⟨hL, b, k, rfl, _⟩
    · have HL := Lib.hid hL; clear hL
      go_wp2
      go_ret2
      exact ⟨by rw [HL.out]; rfl, below_th (below_alth (Below.refl _ _) hb1) hb2⟩
    · have HL : Hid (decide (wtFlt nm f g M m = []) = false) := Lib.hid (decide_eq_false hL)
      clear hL
      go_wp2
      go_ret2
      exact ⟨by rw [HL.out]; rfl, below_th (below_alth (Below.refl _ _) hb1) hb2⟩
  · have hq : iswF f g m M = (false, r) := by
      unfold iswF
      rw [← hfl, ← hr]
      by_cases q1 : isSol f g = true
      · rw [if_pos q1, if_pos q1]
        by_cases q2 : isMx n m M = true
        · rw [if_pos q1, if_pos q2] at hr; exact absurd hr.symm hz
        · rw [if_neg q2, if_neg q2]
      · rw [if_neg q1, if_neg q1]
    rw [hq]
    have hb : (r != 0) = true := by simpa using hz
    clear hr hq hz hfl
    go_enter Tryz.func27, Tryz.ntmps27
    go_wp2_with fail
    (with_reducible refine (HCK.out _ (h1.f.alloc _) (h1.s.alloc _) (h5.alloc _)).mono ?_)
    rintro e w1 ⟨rfl, hb1⟩
    go_wp2
    go_ret2
    exact ⟨rfl, below_alth (Below.refl _ _) hb1⟩

end Go.Proofs.YtnlgmhckjpifiaaGreat
