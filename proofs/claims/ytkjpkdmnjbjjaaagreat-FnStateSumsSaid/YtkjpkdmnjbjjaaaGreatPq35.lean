/-
  Walks and plain laws of this seat, some texts in one.
  No condition but bounds on lengths.
-/
import Derived.Test.YtkjpkdmnjbjjaaaGreatPq2
import Derived.Test.YtkjpkdmnjbjjaaaGreatPq1
import Derived.Test.YtkjpkdmnjbjjaaaGreatPq34
import Derived.Deep.RegionHeld3
import Derived.Test.YtkjpkdmnjbjjaaaGreatPq25
import Derived.Test.YtkjpkdmnjbjjaaaGreatPq8
import Derived.Test.YtkjpkdmnjbjjaaaGreatPq19
import Derived.Test.YtkjpkdmnjbjjaaaGreatPq28
import Derived.Test.YtkjpkdmnjbjjaaaGreatPq33
import Derived.Test.YtkjpkdmnjbjjaaaGreatPq3
import Derived.Test.YtkjpkdmnjbjjaaaGreatPq30
import Derived.Test.YtkjpkdmnjbjjaaaGreatPq10
import Derived.Test.YtkjpkdmnjbjjaaaGreatPq7
import Derived.Test.YtkjpkdmnjbjjaaaGreatPq20
import Derived.Test.YtkjpkdmnjbjjaaaGreatPq32
namespace Go.Proofs.YtkjpkdmnjbjjaaaGreat
set_option maxRecDepth 100000
set_option linter.unusedVariables false
set_option linter.unusedSimpArgs false
open Go.RowKit
set_option maxHeartbeats 1000000 in
theorem impl_Conj_no (s : Int) (a : Option Addr) (n c : Nat) (xs : List Int) (g : Int) (w : World) (h1 : Row w a n xs) (hm : n ≤ 9223372036854775807) (hs : I64 s) (hb : isBr s xs = false) :
    Calls Tryz.prog 45 #[bAgg s a n c, .int .i64 g] w (RetB w 0 [] 1) := by
  have HB := Lib.hid hb; clear hb
  go_enter Tryz.func45, Tryz.ntmps45
  go_wp2_with fail
  refine (isBraid_any _ _ _ _ xs _ ((h1.alloc _).alloc _) hm).mono ?_
  rintro e w1 ⟨rfl, hb1⟩
  rw [HB.out]
  have hA : Loc w1 w.heap.size _ _ := ((Loc.new _ (by simp) _ _).alloc _).below hb1 (by simp <;> omega)
  have hR : Loc w1 (w.heap.size + 1) _ _ := (Loc.new _ (by simp) _ _).below hb1 (by simp)
  have hr1 := ((h1.alloc _).alloc _).below hb1
  have hB1 : Below w.heap.size w w1 := below_alth (below_al (Below.refl _ _) _) hb1
  have lA := hA.two
  have lR := hR.two
  have z1 : w.heap.size + 1 < w1.heap.size := hR.lt
  have z0 : w.heap.size < w1.heap.size := hA.lt
  clear h1 hb1
  go_wp2
  refine bodyPost_ret (v := .tuple #[bAgg 0 none 0 0, .int .i64 1]) (by simp [results, Tryz.results45, go_sem, lR]) rfl ⟨none, 0, 0, rfl, Own.nil _ _, ?_⟩
  exact ((hB1.setCell (by simp) _).setCell (by simp) _)
set_option maxHeartbeats 1000000 in
theorem impl_Conj_range (s : Int) (a : Option Addr) (n c : Nat) (xs : List Int) (g : Int) (w : World) (h1 : Row w a n xs) (hm : n ≤ 9223372036854775807) (hs : I64 s) (hb : isBr s xs = true) (hg : isLet s g = false) :
    Calls Tryz.prog 45 #[bAgg s a n c, .int .i64 g] w (RetB w 0 [] 2) := by
  obtain ⟨h26, h30, hlet⟩ := isBr_let hb
  have hl := h1.len
  have hn30 : n ≤ 30 := by omega
  have HLet := Lib.hid hlet; clear hlet
  have HB := Lib.hid hb; clear hb
  have HL := Lib.hid hl; clear hl
  have hcc : ∀ w', Calls Tryz.prog 86 #[.int .i64 s, .int .i64 g] w' fun e w'' => e = .returned (.bool false) ∧ w' = w'' := fun w' => (isLetter_any s g w' (by omega) (by omega)).mono fun e w'' ⟨he, hw⟩ => ⟨he.trans (ret_bool hg), hw⟩
  have HC := Lib.hid hcc; clear hcc
  clear hg
  go_enter Tryz.func45, Tryz.ntmps45
  go_wp2_with fail
  refine (isBraid_any _ _ _ _ xs _ ((h1.alloc _).alloc _) hm).mono ?_
  rintro e w1 ⟨rfl, hb1⟩
  rw [HB.out]
  have hA : Loc w1 w.heap.size _ _ := ((Loc.new _ (by simp) _ _).alloc _).below hb1 (by simp <;> omega)
  have hR : Loc w1 (w.heap.size + 1) _ _ := (Loc.new _ (by simp) _ _).below hb1 (by simp)
  have hr1 := ((h1.alloc _).alloc _).below hb1
  have hB1 : Below w.heap.size w w1 := below_alth (below_al (Below.refl _ _) _) hb1
  have lA := hA.two
  have lR := hR.two
  have z1 : w.heap.size + 1 < w1.heap.size := hR.lt
  have z0 : w.heap.size < w1.heap.size := hA.lt
  clear h1 hb1
  go_wp2_with fail
  refine (HC.out _).mono ?_
  rintro e w' ⟨rfl, rfl⟩
  go_wp2
  refine bodyPost_ret (v := .tuple #[bAgg 0 none 0 0, .int .i64 2]) (by simp [results, Tryz.results45, go_sem, lR]) rfl ⟨none, 0, 0, rfl, Own.nil _ _, ?_⟩
  exact ((hB1.setCell (by simp) _).setCell (by simp) _)
set_option maxHeartbeats 1000000 in
theorem impl_Conj_limit (s : Int) (a : Option Addr) (n c : Nat) (xs : List Int) (g : Int) (w : World) (h1 : Row w a n xs) (hm : n ≤ 9223372036854775807) (hs : I64 s) (hb : isBr s xs = true) (hg : isLet s g = true) (h28 : 28 < n) :
    Calls Tryz.prog 45 #[bAgg s a n c, .int .i64 g] w (RetB w 0 [] 3) := by
  obtain ⟨h26, h30, hlet⟩ := isBr_let hb
  have hl := h1.len
  have hn30 : n ≤ 30 := by omega
  have HLet := Lib.hid hlet; clear hlet
  have HB := Lib.hid hb; clear hb
  have HL := Lib.hid hl; clear hl
  have hcc : ∀ w', Calls Tryz.prog 86 #[.int .i64 s, .int .i64 g] w' fun e w'' => e = .returned (.bool true) ∧ w' = w'' := fun w' => (isLetter_any s g w' (by omega) (by omega)).mono fun e w'' ⟨he, hw⟩ => ⟨he.trans (ret_bool hg), hw⟩
  have HC := Lib.hid hcc; clear hcc
  clear hg
  go_enter Tryz.func45, Tryz.ntmps45
  go_wp2_with fail
  refine (isBraid_any _ _ _ _ xs _ ((h1.alloc _).alloc _) hm).mono ?_
  rintro e w1 ⟨rfl, hb1⟩
  rw [HB.out]
  have hA : Loc w1 w.heap.size _ _ := ((Loc.new _ (by simp) _ _).alloc _).below hb1 (by simp <;> omega)
  have hR : Loc w1 (w.heap.size + 1) _ _ := (Loc.new _ (by simp) _ _).below hb1 (by simp)
  have hr1 := ((h1.alloc _).alloc _).below hb1
  have hB1 : Below w.heap.size w w1 := below_alth (below_al (Below.refl _ _) _) hb1
  have lA := hA.two
  have lR := hR.two
  have z1 : w.heap.size + 1 < w1.heap.size := hR.lt
  have z0 : w.heap.size < w1.heap.size := hA.lt
  clear h1 hb1
  go_wp2_with fail
  refine (HC.out _).mono ?_
  rintro e w' ⟨rfl, rfl⟩
  go_wp2
  refine bodyPost_ret (v := .tuple #[bAgg 0 none 0 0, .int .i64 3]) (by simp [results, Tryz.results45, go_sem, lR]) rfl ⟨none, 0, 0, rfl, Own.nil _ _, ?_⟩
  exact ((hB1.setCell (by simp) _).setCell (by simp) _)
set_option maxHeartbeats 1000000 in
theorem impl_Conj_ok (s : Int) (a : Option Addr) (n c : Nat) (xs : List Int) (g : Int) (w : World) (h1 : Row w a n xs) (hm : n ≤ 9223372036854775807) (hs : I64 s) (hb : isBr s xs = true) (hg : isLet s g = true) (h28 : n ≤ 28) :
    Calls Tryz.prog 45 #[bAgg s a n c, .int .i64 g] w (RetB w s ([g] ++ xs ++ [-g]) 0) := by
  obtain ⟨h26, h30, hlet⟩ := isBr_let hb
  have hl := h1.len
  have hn30 : n ≤ 30 := by omega
  have HLet := Lib.hid hlet; clear hlet
  have HB := Lib.hid hb; clear hb
  have HL := Lib.hid hl; clear hl
  have e1 : wrap64 (1 - s) = 1 - s := IntWalk.wrap64_in _ ⟨by omega, by omega⟩
  have e2 : wrap64 (s - 1) = s - 1 := IntWalk.wrap64_in _ ⟨by omega, by omega⟩
  have hg' := hg
  simp only [isLet, e1, e2, Bool.and_eq_true, Bool.and_eq_false_iff, decide_eq_true_eq, decide_eq_false_iff_not] at hg'
  clear e1 e2
  have hw1 : IntKind.i64.wrap (-g) = -g := IntWalk.i64_in _ (by omega)
  have HW1 := Lib.hid hw1; clear hw1
  have hcc : ∀ w', Calls Tryz.prog 86 #[.int .i64 s, .int .i64 g] w' fun e w'' => e = .returned (.bool true) ∧ w' = w'' := fun w' => (isLetter_any s g w' (by omega) (by omega)).mono fun e w'' ⟨he, hw⟩ => ⟨he.trans (ret_bool hg), hw⟩
  have HC := Lib.hid hcc; clear hcc
  clear hg hg'
  go_enter Tryz.func45, Tryz.ntmps45
  go_wp2_with fail
  refine (isBraid_any _ _ _ _ xs _ ((h1.alloc _).alloc _) hm).mono ?_
  rintro e w1 ⟨rfl, hb1⟩
  rw [HB.out]
  have hA : Loc w1 w.heap.size _ _ := ((Loc.new _ (by simp) _ _).alloc _).below hb1 (by simp <;> omega)
  have hR : Loc w1 (w.heap.size + 1) _ _ := (Loc.new _ (by simp) _ _).below hb1 (by simp)
  have hr1 := ((h1.alloc _).alloc _).below hb1
  have hB1 : Below w.heap.size w w1 := below_alth (below_al (Below.refl _ _) _) hb1
  have lA := hA.two
  have lR := hR.two
  have z1 : w.heap.size + 1 < w1.heap.size := hR.lt
  have z0 : w.heap.size < w1.heap.size := hA.lt
  clear h1 hb1
  go_wp2_with fail
  refine (HC.out _).mono ?_
  rintro e w' ⟨rfl, rfl⟩
  go_wp2_with fail
  have hw1 := HW1.out
  have hfl : ([[g], xs, [-g]] : List (List Int)).flatten = [g] ++ xs ++ [-g] := by simp
  have HF := Lib.hid hfl; clear hfl
  have hfl2 : ([[g], xs, [-g]] : List (List Int)).flatten.length ≤ 1000000000 := by
    have := HL.out
    simp; omega
  go_region_held3 (fun w' => w'.cell? ⟨w.heap.size, 0, none⟩ = some (.int .i64 s) ∧ w'.cell? ⟨w.heap.size, 1, none⟩ = some (.slice a n c))
    (first | exact ⟨lA2.1, lA2.2.1⟩ | exact ⟨(((hA.alloc _).alloc _).alloc _).cell 0 rfl, (((hA.alloc _).alloc _).alloc _).cell 1 rfl⟩ | go_keep)
    (first
    | (go_at_call 122; refine (concat_any _ _ _ [[g], xs, [-g]] _ (by first | exact (tbl3 (Loc.new _ (by simp) _ _) (((Row.one w1 (by simp) g _).alloc _).alloc _) (((hr1.alloc _).alloc _).alloc _) ((Row.one _ (by simp) (-g) _).alloc _) (by omega) (by omega) (by omega)).drewN 1 | exact (tbl3 (Loc.new _ (by simp) _ _) ((Row.one _ (by simp) g _).alloc _) (((hr1.alloc _).alloc _).alloc _) (((Row.one w1 (by simp) (-g) _).alloc _).alloc _) (by omega) (by omega) (by omega)).drewN 1) (by omega) hfl2).mono ?_; rintro e w2 ⟨a', n', c', rfl, ho, hb2⟩; rw [HF.out] at ho; have hA2 : Loc w2 w.heap.size _ _ := (by first | exact ((((hA.alloc _).alloc _).alloc _).drewN 1).below hb2 (by simp <;> omega)); have hR2 : Loc w2 (w.heap.size + 1) _ _ := (by first | exact ((((hR.alloc _).alloc _).alloc _).drewN 1).below hb2 (by simp <;> omega)); have lA2 := hA2.two; have lR2 := hR2.two; have hB2 : Below w.heap.size w w2 := below_th (below_drewN (below_al (below_al (below_al hB1 _) _) _) 1) hb2))
  all_goals
    go_wp2
    refine bodyPost_ret (v := .tuple #[bAgg s a' n' c', .int .i64 0]) (by simp [results, Tryz.results45, go_sem, lR2]) rfl ⟨_, _, c', rfl, ?_, ?_⟩
    · exact ((ho.setlo (by first | omega | (simp <;> omega)) _).setlo (by first | omega | (simp <;> omega)) _).mono (by first | omega | (simp <;> omega))
    · exact (hB2.setCell (by simp) _).setCell (by simp) _
def conjF (s : Int) (xs : List Int) (g : Int) : Int × List Int × Int :=
  if isBr s xs then (if isLet s g then (if xs.length ≤ 28 then (s, [g] ++ xs ++ [-g], 0) else (0, [], 3)) else (0, [], 2)) else (0, [], 1)
theorem impl_Conj_any (s : Int) (a : Option Addr) (n c : Nat) (xs : List Int) (g : Int) (w : World) (h1 : Row w a n xs) (hm : n ≤ 9223372036854775807) (hs : I64 s) (hg : I64 g) :
    Calls Tryz.prog 45 #[bAgg s a n c, .int .i64 g] w (RetB w (conjF s xs g).1 (conjF s xs g).2.1 (conjF s xs g).2.2) := by
  unfold conjF
  cases h : isBr s xs with
  | true =>
    rw [if_pos rfl]
    cases hg : isLet s g with
    | true =>
      rw [if_pos rfl]
      by_cases h28 : xs.length ≤ 28
      · rw [if_pos h28]
        exact impl_Conj_ok s a n c xs g w h1 hm hs h hg (by have := h1.len; omega)
      · rw [if_neg h28]
        exact impl_Conj_limit s a n c xs g w h1 hm hs h hg (by have := h1.len; omega)
    | false => exact impl_Conj_range s a n c xs g w h1 hm hs h hg
  | false => exact impl_Conj_no s a n c xs g w h1 hm hs h
end Go.Proofs.YtkjpkdmnjbjjaaaGreat

namespace Go.Proofs.YtkjpkdmnjbjjaaaGreat
set_option maxRecDepth 100000
set_option linter.unusedVariables false
set_option linter.unusedSimpArgs false
open Go.RowKit
def bouF (f g : List (List Int)) (m : Int) (gs : List Int) : List (List Int) × Int :=
  if isSol f g then (if rngB 1 12 m then (if rowOk f.length m gs then (bndL f.length m f g gs, 0) else ([], 2)) else ([], 2)) else ([], 1)
theorem bouF_no {f g : List (List Int)} {m : Int} {gs : List Int} (h : isSol f g = false) : bouF f g m gs = ([], 1) := by unfold bouF; rw [h]; rfl
theorem bouF_m {f g : List (List Int)} {m : Int} {gs : List Int} (h : isSol f g = true) (h2 : rngB 1 12 m = false) : bouF f g m gs = ([], 2) := by unfold bouF; rw [h, h2]; rfl
theorem bouF_r {f g : List (List Int)} {m : Int} {gs : List Int} (h : isSol f g = true) (h2 : rngB 1 12 m = true) (h3 : rowOk f.length m gs = false) : bouF f g m gs = ([], 2) := by unfold bouF; rw [h, h2, h3]; rfl
theorem bouF_ok {f g : List (List Int)} {m : Int} {gs : List Int} (h : isSol f g = true) (h2 : rngB 1 12 m = true) (h3 : rowOk f.length m gs = true) : bouF f g m gs = (bndL f.length m f g gs, 0) := by unfold bouF; rw [h, h2, h3]; rfl
set_option maxHeartbeats 2000000 in
theorem impl_Bou_l (a : Option Addr) (n c : Nat) (f : List (List Int)) (a' : Option Addr) (n' c' : Nat) (g : List (List Int)) (m : Int) (al : Option Addr) (nl cl : Nat) (gs : List Int) (w : World) (h1 : Sol w a n f a' n' g) (hm : n ≤ 9223372036854775807 ∧ n' ≤ 9223372036854775807) (hi : I64 m) (hr : Row w al nl gs) (hnl : nl ≤ 9223372036854775807) (hx : I64s gs) :
    Calls Tryz.prog 43 #[sAgg a n c a' n' c', .int .i64 m, .slice al nl cl] w (RetT w (bouF f g m gs).1 (bouF f g m gs).2) := by
  obtain ⟨hm1, hm2⟩ := hm
  have hA := ((Loc.new w rfl #[.slice a n c, .slice a' n' c'] 26).alloc (.cells #[.int .i64 m] 2)).alloc (.cells #[.slice al nl cl] 35)
  have hM := (Loc.new (w.alloc (.cells #[.slice a n c, .slice a' n' c'] 26)) rfl #[.int .i64 m] 2).alloc (.cells #[.slice al nl cl] 35)
  have hG := Loc.new ((w.alloc (.cells #[.slice a n c, .slice a' n' c'] 26)).alloc (.cells #[.int .i64 m] 2)) rfl #[.slice al nl cl] 35
  rw [size_alloc] at hM
  rw [size_alloc, size_alloc] at hG
  have hB := below_al (below_al (below_al (Below.refl w.heap.size w) (.cells #[.slice a n c, .slice a' n' c'] 26)) (.cells #[.int .i64 m] 2)) (.cells #[.slice al nl cl] 35)
  cases hs : isSol f g with
  | false =>
    rw [bouF_no hs]
    have HS := Lib.hid hs; clear hs
    go_enter Tryz.func43, Tryz.ntmps43
    have lA := hA.two
    go_wp2_with fail
    generalize ((w.alloc (.cells #[.slice a n c, .slice a' n' c'] 26)).alloc (.cells #[.int .i64 m] 2)).alloc (.cells #[.slice al nl cl] 35) = w0 at *
    refine (isSolution_any _ _ _ _ _ _ _ _ _ (h1.f.below hB) (h1.s.below hB) hm1 hm2).mono ?_
    rintro e w1 ⟨rfl, hb1⟩
    rw [HS.out]
    go_wp2
    go_ret2
    exact ⟨none, 0, 0, [], rfl, OwnT.nil _ _, below_th hB hb1⟩
  | true =>
    obtain ⟨hn1, hn12, sf, sg⟩ := isSol_sq hs
    have hl1 := h1.f.len
    have hl2 : n' = n := by rw [h1.s.len, hl1]; have := sg.len; omega
    subst hl2
    rw [← hl1] at hn1 hn12 sf sg
    have HSF := Lib.hid sf; have HSG := Lib.hid sg
    have HL := Lib.hid hl1
    have HS := Lib.hid hs
    clear sf sg hl1
    cases hp : rngB 1 12 m && rowOk n' m gs with
    | false =>
      have e : bouF f g m gs = ([], 2) := by
        cases h2 : rngB 1 12 m with
        | false => exact bouF_m hs h2
        | true => exact bouF_r hs h2 (by rw [← HL.out]; rw [h2] at hp; simpa using hp)
      rw [e]
      have HP := Lib.hid hp; clear hp hs e
      go_enter Tryz.func43, Tryz.ntmps43
      have lA := hA.two
      go_wp2_with fail
      generalize ((w.alloc (.cells #[.slice a n' c, .slice a' n' c'] 26)).alloc (.cells #[.int .i64 m] 2)).alloc (.cells #[.slice al nl cl] 35) = w0 at *
      refine (isSolution_any _ _ _ _ _ _ _ _ _ (h1.f.below hB) (h1.s.below hB) hm1 hm2).mono ?_
      rintro e w1 ⟨rfl, hb1⟩
      rw [HS.out]
      have lA1 := (hA.below hb1 hA.lt).two
      have lM1 := (hM.below hb1 hM.lt).one
      have lG1 := (hG.below hb1 hG.lt).one
      have hr1 := hr.below (below_th hB hb1)
      go_wp2_with fail
      refine (isShift_any n' m _ _ _ gs _ hr1 hnl).mono ?_
      rintro e w2 ⟨rfl, rfl⟩
      rw [HP.out]
      go_wp2
      go_ret2
      exact ⟨none, 0, 0, [], rfl, OwnT.nil _ _, below_th hB hb1⟩
    | true =>
      have hp2 := hp
      rw [Bool.and_eq_true] at hp2
      obtain ⟨hp2, hk⟩ := hp2
      rw [bouF_ok hs hp2 (by rw [← HL.out]; exact hk), ← HL.out]
      have hmm : 1 ≤ m ∧ m ≤ 12 := by simpa [rngB] using hp2
      obtain ⟨hq1, hq2⟩ := hmm
      have hln : nl = n' := by have h := (rowOk_get hk).1; have := hr.len; omega
      subst hln
      have HP := Lib.hid hp; have HK := Lib.hid hk; clear hp hs hk hp2
      go_enter Tryz.func43, Tryz.ntmps43
      have lA := hA.two
      go_wp2_with fail
      generalize ((w.alloc (.cells #[.slice a nl c, .slice a' nl c'] 26)).alloc (.cells #[.int .i64 m] 2)).alloc (.cells #[.slice al nl cl] 35) = w0 at *
      refine (isSolution_any _ _ _ _ _ _ _ _ _ (h1.f.below hB) (h1.s.below hB) hm1 hm2).mono ?_
      rintro e w1 ⟨rfl, hb1⟩
      rw [HS.out]
      have hA1 := hA.below hb1 hA.lt
      have hM1 := hM.below hb1 hM.lt
      have hG1 := hG.below hb1 hG.lt
      have lA1 := hA1.two
      have lM1 := hM1.one
      have lG1 := hG1.one
      have hB1 := below_th hB hb1
      clear hA hM hG lA hb1 hB
      go_wp2_with fail
      refine (isShift_any nl m _ _ _ gs _ (hr.below hB1) hnl).mono ?_
      rintro e w2 ⟨rfl, rfl⟩
      rw [HP.out]
      have T1 := h1.f.below hB1
      have T2 := h1.s.below hB1
      have T3 := hr.below hB1
      obtain ⟨bf, of, A, O, C, rfl, gf⟩ := T1.grid HSF.out hn1
      obtain ⟨bg, og, A', O', C', rfl, gg⟩ := T2.grid HSG.out hn1
      have hcl : ∀ x y, x < nl → y < nl → ∀ w2, Below w1.heap.size w1 w2 → Calls Tryz.prog 120 (#[.int .i64 x, .int .i64 y] ++ #[.pointer (some ⟨w.heap.size + 1 + 1, 0, none⟩), .pointer (some ⟨w.heap.size, 0, none⟩), .pointer (some ⟨w.heap.size + 1, 0, none⟩)]) w2 fun e w' => e = .returned (.int .i64 (bndE m f g gs x y)) ∧ Below w2.heap.size w2 w' := fun x y hx hy w2 hb2 =>
        (bound1_any m _ _ _ _ _ _ bf of bg og A O C A' O' C' nl c c' f g al cl gs x y w2 (hG1.below hb2 hG1.lt) (hA1.below hb2 hA1.lt) (hM1.below hb2 hM1.lt) (gf.below hb2) (gg.below hb2) HSF.out HSG.out (T3.below hb2) hq1 hq2 HK.out hx hy).mono fun e w' ⟨he, k, hw⟩ => ⟨he, by rw [hw]; exact below_drewN (Below.refl _ _) k⟩
      have HCL := Lib.hid hcl; clear hcl T1 T2 gf gg
      go_wp2_with fail
      refine (tableBy_any _ _ (bndE m f g gs) nl _ (by omega) ent_bound1 HCL.out).mono ?_
      rintro e w3 ⟨a3, c3, vs3, rfl, ho3, hb3⟩
      go_wp2
      go_ret2
      exact ⟨_, _, _, vs3, rfl, ho3.mono hB1.size, below_th hB1 hb3⟩
end Go.Proofs.YtkjpkdmnjbjjaaaGreat

namespace Go.Proofs.YtkjpkdmnjbjjaaaGreat
set_option maxRecDepth 100000
set_option linter.unusedVariables false
set_option linter.unusedSimpArgs false
open Go.RowKit
def codeF (f g : List (List Int)) (s : Int) (xs : List Int) : Int := if isSol f g then (if isBr s xs then 0 else 1) else 1
end Go.Proofs.YtkjpkdmnjbjjaaaGreat

namespace Go.Proofs.YtkjpkdmnjbjjaaaGreat
set_option maxRecDepth 100000
set_option linter.unusedVariables false
set_option linter.unusedSimpArgs false
open Go.RowKit
def colsF (f g : List (List Int)) (s : Int) (xs : List Int) : List (List Int) × Int := if codeF f g s xs = 0 then colsC f.length s.toNat f g xs else ([], 1)
set_option maxHeartbeats 4000000 in
theorem impl_Cols_l (a : Option Addr) (n c : Nat) (f : List (List Int)) (a' : Option Addr) (n' c' : Nat) (g : List (List Int)) (s : Int) (ab : Option Addr) (nb cb : Nat) (xs : List Int) (w : World) (h1 : Sol w a n f a' n' g) (hm : n ≤ 9223372036854775807 ∧ n' ≤ 9223372036854775807) (hs : I64 s) (hr : Row w ab nb xs) (hnb : nb ≤ 9223372036854775807) (hx : I64s xs) :
    Calls Tryz.prog 118 #[sAgg a n c a' n' c', bAgg s ab nb cb] w (RetT w (colsF f g s xs).1 (colsF f g s xs).2) := by
  obtain ⟨hm1, hm2⟩ := hm
  have hfl := h1.f.len
  by_cases q1 : isSol f g = true
  rotate_left
  · replace q1 : isSol f g = false := by simpa using q1
    have hq : colsF f g s xs = ([], 1) := by unfold colsF codeF; rw [q1]; rfl
    rw [hq]
    have H1 := Lib.hid q1
    clear q1 hq hfl
    have hA := (Loc.new w rfl #[.slice a n c, .slice a' n' c'] 26).alloc (.cells #[.int .i64 s, .slice ab nb cb] 42)
    have hE := Loc.new (w.alloc (.cells #[.slice a n c, .slice a' n' c'] 26)) rfl #[.int .i64 s, .slice ab nb cb] 42
    rw [size_alloc] at hE
    have hB := below_al (below_al (Below.refl w.heap.size w) (.cells #[.slice a n c, .slice a' n' c'] 26)) (.cells #[.int .i64 s, .slice ab nb cb] 42)
    go_enter Tryz.func118, Tryz.ntmps118
    go_wp2_with fail
    generalize (w.alloc (.cells #[.slice a n c, .slice a' n' c'] 26)).alloc (.cells #[.int .i64 s, .slice ab nb cb] 42) = w0 at *
    have lA := hA.two
    have lE := hE.two
    refine (isSolution_any _ _ _ _ _ _ _ _ _ (h1.f.below hB) (h1.s.below hB) hm1 hm2).mono ?_
    rintro e w1 ⟨rfl, hb1⟩
    rw [H1.out]
    go_wp2
    go_ret2
    exact ⟨none, 0, 0, [], rfl, OwnT.nil _ _, below_th hB hb1⟩
  have H1 := Lib.hid q1
  by_cases q2 : isBr s xs = true
  rotate_left
  · replace q2 : isBr s xs = false := by simpa using q2
    have hq : colsF f g s xs = ([], 1) := by unfold colsF codeF; rw [q1, q2]; rfl
    rw [hq]
    have H2 := Lib.hid q2
    clear q1 q2 hq hfl
    have hA := (Loc.new w rfl #[.slice a n c, .slice a' n' c'] 26).alloc (.cells #[.int .i64 s, .slice ab nb cb] 42)
    have hE := Loc.new (w.alloc (.cells #[.slice a n c, .slice a' n' c'] 26)) rfl #[.int .i64 s, .slice ab nb cb] 42
    rw [size_alloc] at hE
    have hB := below_al (below_al (Below.refl w.heap.size w) (.cells #[.slice a n c, .slice a' n' c'] 26)) (.cells #[.int .i64 s, .slice ab nb cb] 42)
    go_enter Tryz.func118, Tryz.ntmps118
    go_wp2_with fail
    generalize (w.alloc (.cells #[.slice a n c, .slice a' n' c'] 26)).alloc (.cells #[.int .i64 s, .slice ab nb cb] 42) = w0 at *
    have lA := hA.two
    have lE := hE.two
    refine (isSolution_any _ _ _ _ _ _ _ _ _ (h1.f.below hB) (h1.s.below hB) hm1 hm2).mono ?_
    rintro e w1 ⟨rfl, hb1⟩
    rw [H1.out]
    have lE1 := (hE.below hb1 hE.lt).two
    go_wp2_with fail
    refine (isBraid_any _ _ _ _ xs _ (hr.below (below_th hB hb1)) hnb).mono ?_
    rintro e w2 ⟨rfl, hb2⟩
    rw [H2.out]
    go_wp2
    go_ret2
    exact ⟨none, 0, 0, [], rfl, OwnT.nil _ _, below_th (below_th hB hb1) hb2⟩
  have H2 := Lib.hid q2
  obtain ⟨hn1, hn12, sf, sg⟩ := isSol_sq q1
  have hl2 : n' = n := by rw [h1.s.len, hfl]; have := sg.len; omega
  subst hl2
  have hs26 := (isBr_let q2).1
  obtain ⟨S, rfl⟩ : ∃ S : Nat, s = S := ⟨s.toNat, by omega⟩
  have hq : colsF f g S xs = colsC n' S f g xs := by unfold colsF codeF; rw [q1, q2, ← hfl]; simp
  rw [hq]
  clear q1 q2 hq hfl sf sg hs26 hn1 hn12
  have hA := (Loc.new w rfl #[.slice a n' c, .slice a' n' c'] 26).alloc (.cells #[.int .i64 S, .slice ab nb cb] 42)
  have hE := Loc.new (w.alloc (.cells #[.slice a n' c, .slice a' n' c'] 26)) rfl #[.int .i64 S, .slice ab nb cb] 42
  rw [size_alloc] at hE
  have hB := below_al (below_al (Below.refl w.heap.size w) (.cells #[.slice a n' c, .slice a' n' c'] 26)) (.cells #[.int .i64 S, .slice ab nb cb] 42)
  go_enter Tryz.func118, Tryz.ntmps118
  go_wp2_with fail
  generalize (w.alloc (.cells #[.slice a n' c, .slice a' n' c'] 26)).alloc (.cells #[.int .i64 S, .slice ab nb cb] 42) = w0 at *
  have lA := hA.two
  have lE := hE.two
  refine (isSolution_any _ _ _ _ _ _ _ _ _ (h1.f.below hB) (h1.s.below hB) hm1 hm2).mono ?_
  rintro e w1 ⟨rfl, hb1⟩
  rw [H1.out]
  have hB1 := below_th hB hb1
  have hA1 := hA.below hb1 hA.lt
  have hE1 := hE.below hb1 hE.lt
  have lE1 := hE1.two
  go_wp2_with fail
  refine (isBraid_any _ _ _ _ xs _ (hr.below hB1) hnb).mono ?_
  rintro e w2 ⟨rfl, hb2⟩
  rw [H2.out]
  have hB2 := below_th hB1 hb2
  have lA2 := (hA1.below hb2 hA1.lt).two
  have lE2 := (hE1.below hb2 hE1.lt).two
  go_wp2_with fail
  refine (colouringsOf_any _ _ _ _ _ f g S _ _ _ xs _ (h1.f.below hB2) (h1.s.below hB2) H1.out (hr.below hB2) H2.out).mono ?_
  rintro e w3 ⟨a3, n3, c3, vs3, rfl, ho3, hb3⟩
  go_wp2
  go_ret2
  exact ⟨_, _, _, vs3, rfl, ho3.mono hB2.size, below_th hB2 hb3⟩
set_option maxHeartbeats 1000000 in
theorem impl_Cnt_l (a : Option Addr) (n c : Nat) (f : List (List Int)) (a' : Option Addr) (n' c' : Nat) (g : List (List Int)) (s : Int) (ab : Option Addr) (nb cb : Nat) (xs : List Int) (w : World) (h1 : Sol w a n f a' n' g) (hm : n ≤ 9223372036854775807 ∧ n' ≤ 9223372036854775807) (hs : I64 s) (hr : Row w ab nb xs) (hnb : nb ≤ 9223372036854775807) (hx : I64s xs) :
    Calls Tryz.prog 42 #[sAgg a n c a' n' c', bAgg s ab nb cb] w (RetI w ((colsF f g s xs).1.length : Int) (colsF f g s xs).2) := by
  have hA := (Loc.new w rfl #[.slice a n c, .slice a' n' c'] 26).alloc (.cells #[.int .i64 s, .slice ab nb cb] 42)
  have hE := Loc.new (w.alloc (.cells #[.slice a n c, .slice a' n' c'] 26)) rfl #[.int .i64 s, .slice ab nb cb] 42
  rw [size_alloc] at hE
  have hB := below_al (below_al (Below.refl w.heap.size w) (.cells #[.slice a n c, .slice a' n' c'] 26)) (.cells #[.int .i64 s, .slice ab nb cb] 42)
  go_enter Tryz.func42, Tryz.ntmps42
  go_wp2_with fail
  generalize (w.alloc (.cells #[.slice a n c, .slice a' n' c'] 26)).alloc (.cells #[.int .i64 s, .slice ab nb cb] 42) = w0 at *
  have lA := hA.two
  have lE := hE.two
  refine (impl_Cols_l _ _ _ f _ _ _ g _ _ _ _ xs _ ⟨h1.f.below hB, h1.s.below hB⟩ hm hs (hr.below hB) hnb hx).mono ?_
  rintro e w1 ⟨a1, n1, c1, vs1, rfl, ho, hb1⟩
  have hl := Lib.hid ho.len
  go_wp2
  go_ret2
  exact ⟨by rw [← hl.out]; rfl, below_th hB hb1⟩
end Go.Proofs.YtkjpkdmnjbjjaaaGreat

namespace Go.Proofs.YtkjpkdmnjbjjaaaGreat
set_option maxRecDepth 100000
set_option linter.unusedVariables false
set_option linter.unusedSimpArgs false
/-! ### tables as functions -/
structure Ybe (n : Nat) (f g : List (List Int)) : Prop where
  sf : Sq n f
  sg : Sq n g
  pos : 1 ≤ n
  coll : collOk n f g = true
  one : ∀ x y z, x < n → y < n → z < n → tv f (tv f x y) (tv f (tv g x y) z) = tv f x (tv f y z)
  two : ∀ x y z, x < n → y < n → z < n → tv g (tv f x y) (tv f (tv g x y) z) = tv f (tv g x (tv f y z)) (tv g y z)
  three : ∀ x y z, x < n → y < n → z < n → tv g (tv g x y) z = tv g (tv g x (tv f y z)) (tv g y z)
  row : ∀ x, x < n → IsP n (f.getD x [])
theorem eqOk_at {n : Nat} {f g : List (List Int)} (h : eqOk n f g = true) {x y z : Nat} (hx : x < n) (hy : y < n) (hz : z < n) :
    tv f (tv f x y) (tv f (tv g x y) z) = tv f x (tv f y z) ∧ tv g (tv f x y) (tv f (tv g x y) z) = tv f (tv g x (tv f y z)) (tv g y z) ∧ tv g (tv g x y) z = tv g (tv g x (tv f y z)) (tv g y z) := by
  have := allN_get (allN_get (allN_get h hx) hy) hz
  unfold eqAt at this
  simp only [Bool.and_eq_true, decide_eq_true_eq] at this
  exact ⟨this.1.1, this.1.2, this.2⟩
section
variable {n : Nat} {f g : List (List Int)}
def bkN (f : List (List Int)) (x y : Nat) : Nat := ((backF (f.getD x [])).getD y 0).toNat
theorem Ybe.bk (h : Ybe n f g) {x y : Nat} (hx : x < n) (hy : y < n) : bkN f x y < n ∧ tv f x (bkN f x y) = y := by
  obtain ⟨q, e1, hq, e2⟩ := backF_at (h.row x hx) y hy
  unfold bkN tv
  rw [e1, Int.toNat_natCast, e2, Int.toNat_natCast]
  exact ⟨hq, rfl⟩
theorem Ybe.inj (h : Ybe n f g) {x y z : Nat} (hx : x < n) (hy : y < n) (hz : z < n) (e : tv f x y = tv f x z) : y = z := by
  obtain ⟨F, G, hl, h1, h2⟩ := h.row x hx
  unfold tv at e
  rw [h2 y hy, h2 z hz, Int.toNat_natCast, Int.toNat_natCast] at e
  rw [← (h1 y hy).2.2.2, ← (h1 z hz).2.2.2, e]
/-! ### the map of tuples -/
end
end Go.Proofs.YtkjpkdmnjbjjaaaGreat

namespace Go.Proofs.YtkjpkdmnjbjjaaaGreat
set_option maxRecDepth 100000
set_option linter.unusedVariables false
set_option linter.unusedSimpArgs false
open Go.RowKit
structure WA (M : Nat) (X : List Int) (e : Int) (L : List Pm) : Prop where
  ltr : ∀ x ∈ X, Ltr M x
  fx : AFx M L
  sim : Sim M (begS M (0, []) X) (e, L)
structure WB (M : Nat) (X : List Int) (p : Pm) (e : Int) (L : List Pm) : Prop where
  ltr : ∀ x ∈ X, Ltr M x
  fp : Fx M p
  fx : AFx M L
  sim : ∀ ws, Wd M p ws → Sim M (begS M (0, []) (X ++ ws)) (e, L)
theorem afx_nil (M : Nat) : AFx M ([] : List Pm) := fun p hp => by simp at hp
theorem WA.beg {M : Nat} {X : List Int} {e : Int} {L : List Pm} (h : WA M X e L) : AFx M (begS M (0, []) X).2 := beg_fx X _ (afx_nil M) h.ltr
theorem WA.start (M : Nat) : WA M [] 0 [] := ⟨fun x hx => by simp at hx, afx_nil M, Sim.refl _ _⟩
theorem ltr_app {M : Nat} {X Y : List Int} (h1 : ∀ x ∈ X, Ltr M x) (h2 : ∀ x ∈ Y, Ltr M x) : ∀ x ∈ X ++ Y, Ltr M x := fun x hx => (List.mem_append.1 hx).elim (h1 x) (h2 x)
theorem WA.more {M : Nat} {X : List Int} {e : Int} {L : List Pm} {p : Pm} (h : WA M X e L) (hp : Fx M p) : WB M X p e (L ++ [p]) := by
  have hL : AFx M (L ++ [p]) := h.fx.app fun q hq => by simp at hq; rw [hq]; exact hp
  refine ⟨h.ltr, hp, hL, fun ws hw => ?_⟩
  have hl := wd_ltr hw hp
  rw [beg_app]
  exact Sim.trans (beg_fx _ _ h.fx hl) (Sim.beg ws h.beg h.fx hl h.sim) (wd_sim hw hp (e, L) h.fx)
theorem WB.step {M : Nat} {X : List Int} {p : Pm} {e : Int} {L : List Pm} {k : Nat} (h : WB M X p e L) (hs : St p k) : WB M (X ++ [(k : Int) + 1]) ((Pm.s k).m p) e L := by
  have hk := h.fp.st hs
  refine ⟨ltr_app h.ltr fun x hx => ?_, (Fx.s hk).m h.fp, h.fx, fun ws hw => ?_⟩
  · simp at hx; rw [hx]; exact ⟨by omega, by rw [plN_suc]; exact hk⟩
  · rw [List.append_assoc]
    exact h.sim _ (.cons p k ws hs hw)
theorem ltr_br {M : Nat} (h2 : 2 ≤ M) (h6 : M ≤ 6) {X : List Int} (hx : ∀ x ∈ X, Ltr M x) (hl : X.length ≤ 30) : isBr M X = true := by
  have e1 : wrap64 (1 - (M : Int)) = 1 - (M : Int) := IntWalk.wrap64_in _ ⟨by omega, by omega⟩
  have e2 : wrap64 ((M : Int) - 1) = (M : Int) - 1 := IntWalk.wrap64_in _ ⟨by omega, by omega⟩
  simp only [isBr, Bool.and_eq_true, decide_eq_true_eq, List.all_eq_true]
  refine ⟨⟨⟨by omega, by omega⟩, hl⟩, fun x h => ?_⟩
  obtain ⟨h0, h1⟩ := hx x h
  unfold plN at h1
  unfold isLet
  simp only [e1, e2, Bool.and_eq_true, decide_eq_true_eq, bne_iff_ne, ne_eq]
  split at h1 <;> exact ⟨h0, by omega, by omega⟩
theorem WA.same {M : Nat} {X ys : List Int} {r r' : Int × List (List Int)} {Z : List Pm} (h2 : 2 ≤ M) (h : WA M X r.1 Z) (hy : ∀ x ∈ ys, Ltr M x) (hZ : Sim M (begS M (0, []) ys) (r.1, Z)) (hr : NFo M (begS M (0, []) ys) r) (hr' : NFo M (begS M (0, []) X) r') : r = r' :=
  nfo_sim h2 (beg_fx ys _ (afx_nil M) hy) h.beg (Sim.trans h.fx hZ h.sim.symm) hr hr'
end Go.Proofs.YtkjpkdmnjbjjaaaGreat

namespace Go.Proofs.YtkjpkdmnjbjjaaaGreat
set_option maxRecDepth 100000
set_option linter.unusedVariables false
set_option linter.unusedSimpArgs false
open Go.RowKit
set_option maxHeartbeats 400000 in
theorem likeInts_any (a1 a2 : Option Addr) (n1 n2 c1 c2 : Nat) (xs ys : List Int) (w : World) (h1 : Row w a1 n1 xs) (h2 : Row w a2 n2 ys) (hm : n1 ≤ 9223372036854775807) :
    Calls Tryz.prog 36 #[.slice a1 n1 c1, .slice a2 n2 c2] w fun e w' => e = .returned (.bool (decide (xs = ys))) ∧ ∃ n, w' = w.drewN n := by
  have hl1 := h1.len
  have hl2 := h2.len
  by_cases hl : n1 = n2
  · subst hl
    have HL := Lib.hid hl1; have HL2 := Lib.hid hl2; clear hl1 hl2
    have hb : ((n1 : Int) != (n1 : Int)) = false := by simp
    go_enter Tryz.func36, Tryz.ntmps36
    go_wp2
    clear hb
    go_loopw [5] (fun i wr => ∃ k : Nat, k ≤ n1 ∧ i = .int .i64 k ∧ xs.take k = ys.take k ∧ ∃ n, wr = w.drewN n) (fun i _ => n1 - (intOf i).toNat)
    case atStart => exact ⟨0, Nat.zero_le _, rfl, by simp, 0, rfl⟩
    case round =>
      obtain ⟨k, hk, rfl, ht, n, rfl⟩ := hrel
      have HT := Lib.hid ht; clear ht
      by_cases hlt : k < n1
      · obtain ⟨b1, o1, rfl, g1⟩ := h1.at k hlt
        obtain ⟨b2, o2, rfl, g2⟩ := h2.at k hlt
        have hx : k < xs.length := by have := HL.out; omega
        have hy : k < ys.length := by have := HL2.out; omega
        clear h1 h2
        go_wp2
        go_quiet (fail)
        go_wp2
        · go_ret
          refine ⟨ret_bool ?_, n + nq, by rw [World.drewN_drewN]⟩
          rename_i hne
          simp only [Bool.false_eq, decide_eq_false_iff_not]
          rintro rfl
          simp at hne
        · go_roundw
          case rel =>
            rename_i hne
            refine ⟨k + 1, by omega, by go_num, take_eq_succ hx hy HT.out (by simpa using hne), n + nq, rfl⟩
          case measure => simp [intOf]; omega
      · obtain rfl : k = n1 := by omega
        go_wp2
        go_ret
        refine ⟨ret_bool ?_, _, rfl⟩
        have := HT.out
        rw [List.take_of_length_le (by have := HL.out; omega), List.take_of_length_le (by have := HL2.out; omega)] at this
        simp [this]
  · have hb : ((n1 : Int) != (n2 : Int)) = true := by simp; omega
    have hne : ¬ xs = ys := by rintro rfl; omega
    clear hl1 hl2
    go_enter Tryz.func36, Tryz.ntmps36
    go_wp2
    go_ret
    exact ⟨ret_bool (by simp [hne]), 0, rfl⟩
theorem likeInts_same (a1 a2 : Option Addr) (n1 n2 c1 c2 : Nat) (xs : List Int) (w : World) (h1 : Row w a1 n1 xs) (h2 : Row w a2 n2 xs) (hm : n1 ≤ 9223372036854775807) :
    Calls Tryz.prog 36 #[.slice a1 n1 c1, .slice a2 n2 c2] w fun e w' => e = .returned (.bool true) ∧ Below w.heap.size w w' :=
  (likeInts_any a1 a2 n1 n2 c1 c2 xs xs w h1 h2 hm).mono fun e w' ⟨he, m, hw⟩ => ⟨he.trans (ret_bool (by simp)), by rw [hw]; exact below_drewN (Below.refl _ _) m⟩
theorem big_any (a : Option Addr) (n c : Nat) (w : World) (hm : n ≤ 9223372036854775807) :
    Calls Tryz.prog 9 #[.slice a n c] w fun e w' => e = .returned (.bool (decide (4096 < n))) ∧ w = w' := by
  go_enter Tryz.func9, Tryz.ntmps9
  go_wp2
  go_ret
  refine ⟨ret_bool (by rw [Bool.eq_iff_iff]; simp; try omega), rfl⟩
end Go.Proofs.YtkjpkdmnjbjjaaaGreat
