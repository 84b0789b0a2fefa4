/-
  Walks and plain laws of this seat, some texts in one.
  No condition but bounds on lengths.
-/
import Derived.Test.YtpdgpgbgakinlaaGreatPb14
import Derived.Test.YtpdgpgbgakinlaaGreatPb12
import Derived.Test.YtpdgpgbgakinlaaGreatPb13
import Derived.Test.YtpdgpgbgakinlaaGreatPb2
import Derived.Test.YtpdgpgbgakinlaaGreatPb8
import Derived.Test.YtpdgpgbgakinlaaGreatPb1
namespace Go.Proofs.YtpdgpgbgakinlaaGreat
set_option maxRecDepth 100000
set_option linter.unusedVariables false
set_option linter.unusedSimpArgs false
open Go.RowKit
theorem Own.lit3 {w : World} {b lo : Nat} {x y z : Int} (h : Loc w b #[.int .i64 x, .int .i64 y, .int .i64 z] 2) (hlo : lo ≤ b) : Own w lo (some ⟨b, 0, none⟩) 3 3 [x, y, z] := Own.mk rfl hlo h (Nat.le_refl _) (by unfold maxLen; omega) rfl rfl
theorem Own.empty0 (w : World) {b lo : Nat} (hb : b = w.heap.size) (hlo : lo ≤ b) : Own (w.alloc (.cells #[] 2)) lo (some ⟨b, 0, none⟩) 0 0 [] := Own.mk rfl hlo (Loc.new w hb _ _) (Nat.le_refl _) (by unfold maxLen; omega) rfl rfl
theorem Loc.held2 {w : World} {b : Nat} {x y : Value} {t : TypeId} (h : Loc w b #[x, y] t) : w.cell? ⟨b, 0, none⟩ = some x ∧ w.cell? ⟨b, 1, none⟩ = some y := ⟨h.cell 0 rfl, h.cell 1 rfl⟩
set_option maxHeartbeats 1000000 in
theorem l18Code_any (a : Option Addr) (n c : Nat) (a' : Option Addr) (n' c' : Nat) (f g : List (List Int)) (m : Int) (am : Option Addr) (nm cm : Nat) (M : List (List Int)) (w : World) (h1 : Tbl w a n f) (h2 : Tbl w a' n' g) (hm1 : n ≤ 9223372036854775807) (hm2 : n' ≤ 9223372036854775807) (h5 : Tbl w am nm M) (hnm : nm ≤ 9223372036854775807) (r : Int) (hr : (if isSol f g then (if isMx n m M then 0 else 2) else 1) = r) :
    Calls Tryz.prog 48 #[sAgg a n c a' n' c', .int .i64 m, .slice am nm cm] w fun e w' => e = .returned (.int .i64 r) ∧ Below w.heap.size w w' := by
  have hA := Loc.new w rfl #[.slice a n c, .slice a' n' c'] 26
  cases q1 : isSol f g with
  | false =>
    rw [q1] at hr
    simp only [Bool.false_eq_true, if_false] at hr
    subst hr
    have H1 := Lib.hid q1; clear q1
    go_enter Tryz.func48, Tryz.ntmps48
    go_wp2_with fail
    refine (l02Is_any _ _ _ _ _ _ _ _ _ (h1.alloc _) (h2.alloc _) hm1 hm2).mono ?_
    rintro e w1 ⟨rfl, hb1⟩
    rw [H1.out]
    go_wp2
    go_ret
    exact ⟨rfl, below_alth (Below.refl _ _) hb1⟩
  | true =>
    rw [q1] at hr
    simp only [if_true] at hr
    have H1 := Lib.hid q1; clear q1
    have HR := Lib.hid hr; clear hr
    go_enter Tryz.func48, Tryz.ntmps48
    go_wp2_with fail
    refine (l02Is_any _ _ _ _ _ _ _ _ _ (h1.alloc _) (h2.alloc _) hm1 hm2).mono ?_
    rintro e w1 ⟨rfl, hb1⟩
    rw [H1.out]
    have lA := (hA.below hb1 (by simp)).two
    go_wp2_with fail
    refine (l14Code_any n m _ _ _ M _ ((h5.alloc _).below hb1) hnm r HR.out).mono ?_
    rintro e w2 ⟨rfl, rfl⟩
    go_wp2
    go_ret
    exact ⟨rfl, below_alth (Below.refl _ _) hb1⟩
end Go.Proofs.YtpdgpgbgakinlaaGreat

namespace Go.Proofs.YtpdgpgbgakinlaaGreat
set_option maxRecDepth 100000
set_option linter.unusedVariables false
set_option linter.unusedSimpArgs false
open Go.RowKit
theorem less_all {n : Nat} {l : List Int} (h : l.all (rngB 0 ((n : Int) - 1)) = true) : Less n l := by
  intro i hi
  have := List.all_eq_true.1 h l[i] (List.getElem_mem hi)
  unfold rngB at this
  simp at this
  refine ⟨(l.getD i 0).toNat, ?_, ?_⟩ <;> rw [getD_eq_at hi] <;> omega
theorem areElements_any (n : Nat) (a : Option Addr) (m c : Nat) (l : List Int) (w : World) (h1 : Row w a m l) (hm : m ≤ 9223372036854775807) (hn : n ≤ 1000000) :
    Calls Tryz.prog 43 #[.int .i64 n, .slice a m c] w fun e w' => e = .returned (.bool (l.all (rngB 0 ((n : Int) - 1)))) ∧ w = w' := by
  have HA := Lib.hid (allWithin_any a m c l 0 ((n : Int) - 1) w h1 hm)
  go_enter Tryz.func43, Tryz.ntmps43
  go_wp2_with fail
  refine HA.out.mono ?_
  rintro e w' ⟨rfl, rfl⟩
  go_wp2
  go_ret
  exact ⟨rfl, rfl⟩
end Go.Proofs.YtpdgpgbgakinlaaGreat

namespace Go.Proofs.YtpdgpgbgakinlaaGreat
set_option maxRecDepth 100000
set_option linter.unusedVariables false
set_option linter.unusedSimpArgs false
open Go.RowKit
def wotF (f g : List (List Int)) (m : Int) (M : List (List Int)) (s : Int) (xs l : List Int) : Int × Int :=
  if isSol f g then (if isBr s xs then (if isMx f.length m M then (if (l.length : Int) = s then (if l.all (rngB 0 ((f.length : Int) - 1)) then (wtF f.length f g M m xs l, 0) else (0, 2)) else (0, 2)) else (0, 2)) else (0, 1)) else (0, 1)
set_option maxHeartbeats 4000000 in
theorem impl_Wot_l (a : Option Addr) (n c : Nat) (f : List (List Int)) (a' : Option Addr) (n' c' : Nat) (g : List (List Int)) (m : Int) (am : Option Addr) (nm cm : Nat) (M : List (List Int)) (s : Int) (ab : Option Addr) (nb cb : Nat) (xs : List Int) (al : Option Addr) (k cl : Nat) (l : List Int) (w : World) (h1 : Sol w a n f a' n' g) (hm : n ≤ 9223372036854775807 ∧ n' ≤ 9223372036854775807) (hi : I64 m) (h5 : Tbl w am nm M) (hnm : nm ≤ 9223372036854775807) (hs : I64 s) (hr : Row w ab nb xs) (hnb : nb ≤ 9223372036854775807) (hx : I64s xs) (hcap : nb ≤ cb ∧ cb ≤ 9223372036854775807) (hl : Row w al k l) (hkl : k ≤ 9223372036854775807) (hxl : I64s l) :
    Calls Tryz.prog 8 #[sAgg a n c a' n' c', .int .i64 m, .slice am nm cm, bAgg s ab nb cb, .slice al k cl] w (RetI w (wotF f g m M s xs l).1 (wotF f g m M s xs l).2) := by
  obtain ⟨hm1, hm2⟩ := hm
  have hfl := h1.f.len
  have hll := hl.len
  have hml := h5.len
  have hA := (Loc.new w rfl #[.slice a n c, .slice a' n' c'] 26).alloc (.cells #[.int .i64 s, .slice ab nb cb] 29)
  have hE := Loc.new (w.alloc (.cells #[.slice a n c, .slice a' n' c'] 26)) rfl #[.int .i64 s, .slice ab nb cb] 29
  rw [size_alloc] at hE
  have hB := below_al (below_al (Below.refl w.heap.size w) (.cells #[.slice a n c, .slice a' n' c'] 26)) (.cells #[.int .i64 s, .slice ab nb cb] 29)
  by_cases q0 : isSol f g = true
  rotate_left
  · replace q0 : isSol f g = false := by simpa using q0
    have hq : wotF f g m M s xs l = (0, 1) := by unfold wotF; rw [q0]; rfl
    rw [hq]
    have H0 := Lib.hid q0
    clear q0 hq hfl hll hml
    go_enter Tryz.func8, Tryz.ntmps8
    go_wp2_with fail
    generalize (w.alloc (.cells #[.slice a n c, .slice a' n' c'] 26)).alloc (.cells #[.int .i64 s, .slice ab nb cb] 29) = w0 at *
    have hB0 := hB
    have lA0 := hA.two
    have lE0 := hE.two
    refine (isSolution_any _ _ _ _ _ _ _ _ _ (h1.f.below hB0) (h1.s.below hB0) hm1 hm2).mono ?_
    rintro e w1 ⟨rfl, hb1⟩
    rw [H0.out]
    have hB1 := below_th hB0 hb1
    replace hA := hA.below hb1 hA.lt
    replace hE := hE.below hb1 hE.lt
    have lA1 := hA.two
    have lE1 := hE.two
    clear lA0 lE0
    go_wp2
    go_ret2
    exact ⟨rfl, hB1⟩
  have H0 := Lib.hid q0
  by_cases q1 : isBr s xs = true
  rotate_left
  · replace q1 : isBr s xs = false := by simpa using q1
    have hq : wotF f g m M s xs l = (0, 1) := by unfold wotF; rw [q0, q1]; rfl
    rw [hq]
    have H1 := Lib.hid q1
    clear q0 q1 hq hfl hll hml
    go_enter Tryz.func8, Tryz.ntmps8
    go_wp2_with fail
    generalize (w.alloc (.cells #[.slice a n c, .slice a' n' c'] 26)).alloc (.cells #[.int .i64 s, .slice ab nb cb] 29) = w0 at *
    have hB0 := hB
    have lA0 := hA.two
    have lE0 := hE.two
    refine (isSolution_any _ _ _ _ _ _ _ _ _ (h1.f.below hB0) (h1.s.below hB0) hm1 hm2).mono ?_
    rintro e w1 ⟨rfl, hb1⟩
    rw [H0.out]
    have hB1 := below_th hB0 hb1
    replace hA := hA.below hb1 hA.lt
    replace hE := hE.below hb1 hE.lt
    have lA1 := hA.two
    have lE1 := hE.two
    clear lA0 lE0
    go_wp2_with fail
    refine (isBraid_any _ _ _ _ xs _ (hr.below hB1) hnb).mono ?_
    rintro e w2 ⟨rfl, hb2⟩
    rw [H1.out]
    have hB2 := below_th hB1 hb2
    replace hA := hA.below hb2 hA.lt
    replace hE := hE.below hb2 hE.lt
    have lA2 := hA.two
    have lE2 := hE.two
    clear lA1 lE1
    go_wp2
    go_ret2
    exact ⟨rfl, hB2⟩
  have H1 := Lib.hid q1
  obtain ⟨hn1, hn12, sf, sg⟩ := isSol_sq q0
  have hcc := isSol_coll q0
  have hl2 : n' = n := by rw [h1.s.len, hfl]; have := sg.len; omega
  subst hl2
  have hs26 := (isBr_let q1).1
  obtain ⟨S, rfl⟩ : ∃ S : Nat, s = S := ⟨s.toNat, by omega⟩
  have hfl2 : f.length = n' := hfl.symm
  rw [hfl2] at hn1 hn12 sf sg hcc
  have HSF := Lib.hid sf; have HSG := Lib.hid sg; have HCC := Lib.hid hcc
  have hs2 : 2 ≤ S := by omega
  have hs6 : S ≤ 6 := by omega
  clear sf sg hcc
  by_cases q2 : isMx n' m M = true
  rotate_left
  · replace q2 : isMx n' m M = false := by simpa using q2
    have hq : wotF f g m M S xs l = (0, 2) := by unfold wotF; rw [q0, q1, hfl2, q2]; rfl
    rw [hq]
    have H2 := Lib.hid q2
    clear q0 q1 q2 hq hfl hll hml hfl2
    go_enter Tryz.func8, Tryz.ntmps8
    go_wp2_with fail
    generalize (w.alloc (.cells #[.slice a n' c, .slice a' n' c'] 26)).alloc (.cells #[.int .i64 S, .slice ab nb cb] 29) = w0 at *
    have hB0 := hB
    have lA0 := hA.two
    have lE0 := hE.two
    refine (isSolution_any _ _ _ _ _ _ _ _ _ (h1.f.below hB0) (h1.s.below hB0) hm1 hm2).mono ?_
    rintro e w1 ⟨rfl, hb1⟩
    rw [H0.out]
    have hB1 := below_th hB0 hb1
    replace hA := hA.below hb1 hA.lt
    replace hE := hE.below hb1 hE.lt
    have lA1 := hA.two
    have lE1 := hE.two
    clear lA0 lE0
    go_wp2_with fail
    refine (isBraid_any _ _ _ _ xs _ (hr.below hB1) hnb).mono ?_
    rintro e w2 ⟨rfl, hb2⟩
    rw [H1.out]
    have hB2 := below_th hB1 hb2
    replace hA := hA.below hb2 hA.lt
    replace hE := hE.below hb2 hE.lt
    have lA2 := hA.two
    have lE2 := hE.two
    clear lA1 lE1
    go_wp2_with fail
    refine (isMatrix_any _ _ _ _ _ M _ (h5.below hB2) hnm).mono ?_
    rintro e w3 ⟨rfl, hb3⟩
    rw [H2.out]
    have hB3 := below_th hB2 hb3
    replace hA := hA.below hb3 hA.lt
    replace hE := hE.below hb3 hE.lt
    have lA3 := hA.two
    have lE3 := hE.two
    clear lA2 lE2
    go_wp2
    go_ret2
    exact ⟨rfl, hB3⟩
  obtain ⟨hmm, hM⟩ := isMx_sq q2
  have HMM := Lib.hid hmm; have HM := Lib.hid hM
  have hlm : nm = n' := by rw [hml]; exact hM.1
  subst hlm
  clear hmm hM
  have H2 := Lib.hid q2
  by_cases q3 : k = S
  rotate_left
  · have b3 : ((k : Int) != (S : Int)) = true := by simp; omega
    have hq : wotF f g m M S xs l = (0, 2) := by unfold wotF; rw [q0, q1, hfl2, q2, ← hll]; simp; omega
    rw [hq]
    clear q0 q1 q2 q3 hq hfl hll hml hfl2
    go_enter Tryz.func8, Tryz.ntmps8
    go_wp2_with fail
    generalize (w.alloc (.cells #[.slice a nm c, .slice a' nm c'] 26)).alloc (.cells #[.int .i64 S, .slice ab nb cb] 29) = w0 at *
    have hB0 := hB
    have lA0 := hA.two
    have lE0 := hE.two
    refine (isSolution_any _ _ _ _ _ _ _ _ _ (h1.f.below hB0) (h1.s.below hB0) hm1 hm2).mono ?_
    rintro e w1 ⟨rfl, hb1⟩
    rw [H0.out]
    have hB1 := below_th hB0 hb1
    replace hA := hA.below hb1 hA.lt
    replace hE := hE.below hb1 hE.lt
    have lA1 := hA.two
    have lE1 := hE.two
    clear lA0 lE0
    go_wp2_with fail
    refine (isBraid_any _ _ _ _ xs _ (hr.below hB1) hnb).mono ?_
    rintro e w2 ⟨rfl, hb2⟩
    rw [H1.out]
    have hB2 := below_th hB1 hb2
    replace hA := hA.below hb2 hA.lt
    replace hE := hE.below hb2 hE.lt
    have lA2 := hA.two
    have lE2 := hE.two
    clear lA1 lE1
    go_wp2_with fail
    refine (isMatrix_any _ _ _ _ _ M _ (h5.below hB2) hnm).mono ?_
    rintro e w3 ⟨rfl, hb3⟩
    rw [H2.out]
    have hB3 := below_th hB2 hb3
    replace hA := hA.below hb3 hA.lt
    replace hE := hE.below hb3 hE.lt
    have lA3 := hA.two
    have lE3 := hE.two
    clear lA2 lE2
    go_wp2
    go_ret2
    exact ⟨rfl, hB3⟩
  subst q3
  have b3 : ((k : Int) != (k : Int)) = false := by simp
  cases q4 : l.all (rngB 0 ((nm : Int) - 1)) with
  | false =>
    have hq : wotF f g m M k xs l = (0, 2) := by unfold wotF; rw [q0, q1, hfl2, q2, ← hll, q4]; simp
    rw [hq]
    have H4 := Lib.hid q4
    clear q0 q1 q2 q4 hq hfl hll hml hfl2
    go_enter Tryz.func8, Tryz.ntmps8
    go_wp2_with fail
    generalize (w.alloc (.cells #[.slice a nm c, .slice a' nm c'] 26)).alloc (.cells #[.int .i64 k, .slice ab nb cb] 29) = w0 at *
    have hB0 := hB
    have lA0 := hA.two
    have lE0 := hE.two
    refine (isSolution_any _ _ _ _ _ _ _ _ _ (h1.f.below hB0) (h1.s.below hB0) hm1 hm2).mono ?_
    rintro e w1 ⟨rfl, hb1⟩
    rw [H0.out]
    have hB1 := below_th hB0 hb1
    replace hA := hA.below hb1 hA.lt
    replace hE := hE.below hb1 hE.lt
    have lA1 := hA.two
    have lE1 := hE.two
    clear lA0 lE0
    go_wp2_with fail
    refine (isBraid_any _ _ _ _ xs _ (hr.below hB1) hnb).mono ?_
    rintro e w2 ⟨rfl, hb2⟩
    rw [H1.out]
    have hB2 := below_th hB1 hb2
    replace hA := hA.below hb2 hA.lt
    replace hE := hE.below hb2 hE.lt
    have lA2 := hA.two
    have lE2 := hE.two
    clear lA1 lE1
    go_wp2_with fail
    refine (isMatrix_any _ _ _ _ _ M _ (h5.below hB2) hnm).mono ?_
    rintro e w3 ⟨rfl, hb3⟩
    rw [H2.out]
    have hB3 := below_th hB2 hb3
    replace hA := hA.below hb3 hA.lt
    replace hE := hE.below hb3 hE.lt
    have lA3 := hA.two
    have lE3 := hE.two
    clear lA2 lE2
    go_wp2_with fail
    refine (areElements_any _ _ _ _ l _ (hl.below hB3) hkl (by omega)).mono ?_
    rintro e w4 ⟨rfl, rfl⟩
    rw [H4.out]
    have hB4 := hB3
    have lA4 := lA3
    have lE4 := lE3
    clear lA3 lE3
    go_wp2
    go_ret2
    exact ⟨rfl, hB4⟩
  | true =>
    have hq : wotF f g m M k xs l = (wtF nm f g M m xs l, 0) := by unfold wotF; rw [q0, q1, hfl2, q2, ← hll, q4]; simp
    rw [hq]
    have H4 := Lib.hid q4
    have HLE : Hid (Less nm l) := Lib.hid (less_all q4)
    have HWD : Hid (IsWd k xs) := Lib.hid (isBr_wd q1)
    clear q0 q1 q2 q4 hq hfl hll hml hfl2
    go_enter Tryz.func8, Tryz.ntmps8
    go_wp2_with fail
    generalize (w.alloc (.cells #[.slice a nm c, .slice a' nm c'] 26)).alloc (.cells #[.int .i64 k, .slice ab nb cb] 29) = w0 at *
    have hB0 := hB
    have lA0 := hA.two
    have lE0 := hE.two
    refine (isSolution_any _ _ _ _ _ _ _ _ _ (h1.f.below hB0) (h1.s.below hB0) hm1 hm2).mono ?_
    rintro e w1 ⟨rfl, hb1⟩
    rw [H0.out]
    have hB1 := below_th hB0 hb1
    replace hA := hA.below hb1 hA.lt
    replace hE := hE.below hb1 hE.lt
    have lA1 := hA.two
    have lE1 := hE.two
    clear lA0 lE0
    go_wp2_with fail
    refine (isBraid_any _ _ _ _ xs _ (hr.below hB1) hnb).mono ?_
    rintro e w2 ⟨rfl, hb2⟩
    rw [H1.out]
    have hB2 := below_th hB1 hb2
    replace hA := hA.below hb2 hA.lt
    replace hE := hE.below hb2 hE.lt
    have lA2 := hA.two
    have lE2 := hE.two
    clear lA1 lE1
    go_wp2_with fail
    refine (isMatrix_any _ _ _ _ _ M _ (h5.below hB2) hnm).mono ?_
    rintro e w3 ⟨rfl, hb3⟩
    rw [H2.out]
    have hB3 := below_th hB2 hb3
    replace hA := hA.below hb3 hA.lt
    replace hE := hE.below hb3 hE.lt
    have lA3 := hA.two
    have lE3 := hE.two
    clear lA2 lE2
    go_wp2_with fail
    refine (areElements_any _ _ _ _ l _ (hl.below hB3) hkl (by omega)).mono ?_
    rintro e w4 ⟨rfl, rfl⟩
    rw [H4.out]
    have hB4 := hB3
    have lA4 := lA3
    have lE4 := lE3
    clear lA3 lE3
    have hq0 := hB4.size
    go_wp2
    go_region_held3 (fun w' => (w'.cell? ⟨w.heap.size, 0, none⟩ = some (.slice a nm c) ∧ w'.cell? ⟨w.heap.size, 1, none⟩ = some (.slice a' nm c')) ∧ w'.cell? ⟨w.heap.size + 1, 1, none⟩ = some (.slice ab nb cb))
      (first | exact ⟨(hA.below hy2 hA.lt).held2, (hE.below hy2 hE.lt).held2.2⟩ | exact ⟨(hA.below hy1 hA.lt).held2, (hE.below hy1 hE.lt).held2.2⟩ | exact ⟨hA.held2, hE.held2.2⟩)
      (first
        | (go_at_call 45; refine (newAction_any _ _ _ _ _ f g _ ((h1.f.below hB4).drewN 1) ((h1.s.below hB4).drewN 1) H0.out hn12).mono ?_; rintro e v1 ⟨b, d, vs, b', d', vs', rfl, ho, hv1⟩; have hy1 := below_undrew hv1; have hz1 := below_th hB4 hy1)
        | (go_at_call 44; refine (weightOf_any _ _ _ _ _ _ _ _ _ f g _ _ _ M _ _ _ _ xs _ _ l _ (h1.f.below hz1) (h1.s.below hz1) ho.f.tbl ho.s.tbl hn1 HSF.out HSG.out HCC.out HMM.out HM.out (h5.below hz1) (hr.below hz1) HWD.out hs2 hs6 (hl.below hz1) HLE.out).mono ?_; rintro e v2 ⟨rfl, hv2⟩; have hy2 := below_th hy1 hv2; have hz2 := below_th hz1 hv2))
    all_goals
      go_wp2
      go_ret2
      exact ⟨rfl, hz2⟩
set_option maxHeartbeats 4000000 in
theorem spec_Wot_l (a : Option Addr) (n c : Nat) (f : List (List Int)) (a' : Option Addr) (n' c' : Nat) (g : List (List Int)) (m : Int) (am : Option Addr) (nm cm : Nat) (M : List (List Int)) (s : Int) (ab : Option Addr) (nb cb : Nat) (xs : List Int) (al : Option Addr) (k cl : Nat) (l : List Int) (w : World) (h1 : Sol w a n f a' n' g) (hm : n ≤ 9223372036854775807 ∧ n' ≤ 9223372036854775807) (hi : I64 m) (h5 : Tbl w am nm M) (hnm : nm ≤ 9223372036854775807) (hs : I64 s) (hr : Row w ab nb xs) (hnb : nb ≤ 9223372036854775807) (hx : I64s xs) (hcap : nb ≤ cb ∧ cb ≤ 9223372036854775807) (hl : Row w al k l) (hkl : k ≤ 9223372036854775807) (hxl : I64s l) :
    Calls Tryz.prog 9 #[sAgg a n c a' n' c', .int .i64 m, .slice am nm cm, bAgg s ab nb cb, .slice al k cl] w (RetI w (wotF f g m M s xs l).1 (wotF f g m M s xs l).2) := by
  obtain ⟨hm1, hm2⟩ := hm
  have hfl := h1.f.len
  have hll := hl.len
  have hml := h5.len
  have hA := (Loc.new w rfl #[.slice a n c, .slice a' n' c'] 26).alloc (.cells #[.int .i64 s, .slice ab nb cb] 29)
  have hE := Loc.new (w.alloc (.cells #[.slice a n c, .slice a' n' c'] 26)) rfl #[.int .i64 s, .slice ab nb cb] 29
  rw [size_alloc] at hE
  have hB := below_al (below_al (Below.refl w.heap.size w) (.cells #[.slice a n c, .slice a' n' c'] 26)) (.cells #[.int .i64 s, .slice ab nb cb] 29)
  by_cases q0 : isSol f g = true
  rotate_left
  · replace q0 : isSol f g = false := by simpa using q0
    have hq : wotF f g m M s xs l = (0, 1) := by unfold wotF; rw [q0]; rfl
    rw [hq]
    have H0 := Lib.hid q0
    clear q0 hq hfl hll hml
    go_enter Tryz.func9, Tryz.ntmps9
    go_wp2_with fail
    generalize (w.alloc (.cells #[.slice a n c, .slice a' n' c'] 26)).alloc (.cells #[.int .i64 s, .slice ab nb cb] 29) = w0 at *
    have hB0 := hB
    have lA0 := hA.two
    have lE0 := hE.two
    refine (l02Is_any _ _ _ _ _ _ _ _ _ (h1.f.below hB0) (h1.s.below hB0) hm1 hm2).mono ?_
    rintro e w1 ⟨rfl, hb1⟩
    rw [H0.out]
    have hB1 := below_th hB0 hb1
    replace hA := hA.below hb1 hA.lt
    replace hE := hE.below hb1 hE.lt
    have lA1 := hA.two
    have lE1 := hE.two
    clear lA0 lE0
    go_wp2
    go_ret2
    exact ⟨rfl, hB1⟩
  have H0 := Lib.hid q0
  by_cases q1 : isBr s xs = true
  rotate_left
  · replace q1 : isBr s xs = false := by simpa using q1
    have hq : wotF f g m M s xs l = (0, 1) := by unfold wotF; rw [q0, q1]; rfl
    rw [hq]
    have H1 := Lib.hid q1
    clear q0 q1 hq hfl hll hml
    go_enter Tryz.func9, Tryz.ntmps9
    go_wp2_with fail
    generalize (w.alloc (.cells #[.slice a n c, .slice a' n' c'] 26)).alloc (.cells #[.int .i64 s, .slice ab nb cb] 29) = w0 at *
    have hB0 := hB
    have lA0 := hA.two
    have lE0 := hE.two
    refine (l02Is_any _ _ _ _ _ _ _ _ _ (h1.f.below hB0) (h1.s.below hB0) hm1 hm2).mono ?_
    rintro e w1 ⟨rfl, hb1⟩
    rw [H0.out]
    have hB1 := below_th hB0 hb1
    replace hA := hA.below hb1 hA.lt
    replace hE := hE.below hb1 hE.lt
    have lA1 := hA.two
    have lE1 := hE.two
    clear lA0 lE0
    go_wp2_with fail
    refine (l16Is_any _ _ _ _ xs _ (hr.below hB1) hnb hs).mono ?_
    rintro e w2 ⟨rfl, hb2⟩
    rw [H1.out]
    have hB2 := below_th hB1 hb2
    replace hA := hA.below hb2 hA.lt
    replace hE := hE.below hb2 hE.lt
    have lA2 := hA.two
    have lE2 := hE.two
    clear lA1 lE1
    go_wp2
    go_ret2
    exact ⟨rfl, hB2⟩
  have H1 := Lib.hid q1
  obtain ⟨hn1, hn12, sf, sg⟩ := isSol_sq q0
  have hcc := isSol_coll q0
  have hl2 : n' = n := by rw [h1.s.len, hfl]; have := sg.len; omega
  subst hl2
  have hs26 := (isBr_let q1).1
  obtain ⟨S, rfl⟩ : ∃ S : Nat, s = S := ⟨s.toNat, by omega⟩
  have hfl2 : f.length = n' := hfl.symm
  rw [hfl2] at hn1 hn12 sf sg hcc
  have HSF := Lib.hid sf; have HSG := Lib.hid sg; have HCC := Lib.hid hcc
  have hs2 : 2 ≤ S := by omega
  have hs6 : S ≤ 6 := by omega
  clear sf sg hcc
  by_cases q2 : isMx n' m M = true
  rotate_left
  · replace q2 : isMx n' m M = false := by simpa using q2
    have hq : wotF f g m M S xs l = (0, 2) := by unfold wotF; rw [q0, q1, hfl2, q2]; rfl
    rw [hq]
    have H2 : Hid ((if isSol f g then (if isMx n' m M then 0 else 2) else 1) = (2 : Int)) := Lib.hid (by rw [q0, q2]; rfl)
    clear q0 q1 q2 hq hfl hll hml hfl2
    go_enter Tryz.func9, Tryz.ntmps9
    go_wp2_with fail
    generalize (w.alloc (.cells #[.slice a n' c, .slice a' n' c'] 26)).alloc (.cells #[.int .i64 S, .slice ab nb cb] 29) = w0 at *
    have hB0 := hB
    have lA0 := hA.two
    have lE0 := hE.two
    refine (l02Is_any _ _ _ _ _ _ _ _ _ (h1.f.below hB0) (h1.s.below hB0) hm1 hm2).mono ?_
    rintro e w1 ⟨rfl, hb1⟩
    rw [H0.out]
    have hB1 := below_th hB0 hb1
    replace hA := hA.below hb1 hA.lt
    replace hE := hE.below hb1 hE.lt
    have lA1 := hA.two
    have lE1 := hE.two
    clear lA0 lE0
    go_wp2_with fail
    refine (l16Is_any _ _ _ _ xs _ (hr.below hB1) hnb hs).mono ?_
    rintro e w2 ⟨rfl, hb2⟩
    rw [H1.out]
    have hB2 := below_th hB1 hb2
    replace hA := hA.below hb2 hA.lt
    replace hE := hE.below hb2 hE.lt
    have lA2 := hA.two
    have lE2 := hE.two
    clear lA1 lE1
    go_wp2_with fail
    refine (l18Code_any _ _ _ _ _ _ f g _ _ _ _ M _ (h1.f.below hB2) (h1.s.below hB2) hm1 hm2 (h5.below hB2) hnm _ H2.out).mono ?_
    rintro e w3 ⟨rfl, hb3⟩
    have hB3 := below_th hB2 hb3
    replace hA := hA.below hb3 hA.lt
    replace hE := hE.below hb3 hE.lt
    have lA3 := hA.two
    have lE3 := hE.two
    clear lA2 lE2
    go_wp2
    go_ret2
    exact ⟨rfl, hB3⟩
  obtain ⟨hmm, hM⟩ := isMx_sq q2
  have HMM := Lib.hid hmm; have HM := Lib.hid hM
  have hlm : nm = n' := by rw [hml]; exact hM.1
  subst hlm
  clear hmm hM
  have H2 : Hid ((if isSol f g then (if isMx nm m M then 0 else 2) else 1) = (0 : Int)) := Lib.hid (by rw [q0, q2]; rfl)
  by_cases q3 : k = S
  rotate_left
  · have b3 : ((k : Int) != (S : Int)) = true := by simp; omega
    have hq : wotF f g m M S xs l = (0, 2) := by unfold wotF; rw [q0, q1, hfl2, q2, ← hll]; simp; omega
    rw [hq]
    clear q0 q1 q2 q3 hq hfl hll hml hfl2
    go_enter Tryz.func9, Tryz.ntmps9
    go_wp2_with fail
    generalize (w.alloc (.cells #[.slice a nm c, .slice a' nm c'] 26)).alloc (.cells #[.int .i64 S, .slice ab nb cb] 29) = w0 at *
    have hB0 := hB
    have lA0 := hA.two
    have lE0 := hE.two
    refine (l02Is_any _ _ _ _ _ _ _ _ _ (h1.f.below hB0) (h1.s.below hB0) hm1 hm2).mono ?_
    rintro e w1 ⟨rfl, hb1⟩
    rw [H0.out]
    have hB1 := below_th hB0 hb1
    replace hA := hA.below hb1 hA.lt
    replace hE := hE.below hb1 hE.lt
    have lA1 := hA.two
    have lE1 := hE.two
    clear lA0 lE0
    go_wp2_with fail
    refine (l16Is_any _ _ _ _ xs _ (hr.below hB1) hnb hs).mono ?_
    rintro e w2 ⟨rfl, hb2⟩
    rw [H1.out]
    have hB2 := below_th hB1 hb2
    replace hA := hA.below hb2 hA.lt
    replace hE := hE.below hb2 hE.lt
    have lA2 := hA.two
    have lE2 := hE.two
    clear lA1 lE1
    go_wp2_with fail
    refine (l18Code_any _ _ _ _ _ _ f g _ _ _ _ M _ (h1.f.below hB2) (h1.s.below hB2) hm1 hm2 (h5.below hB2) hnm _ H2.out).mono ?_
    rintro e w3 ⟨rfl, hb3⟩
    have hB3 := below_th hB2 hb3
    replace hA := hA.below hb3 hA.lt
    replace hE := hE.below hb3 hE.lt
    have lA3 := hA.two
    have lE3 := hE.two
    clear lA2 lE2
    go_wp2
    go_ret2
    exact ⟨rfl, hB3⟩
  subst q3
  have b3 : ((k : Int) != (k : Int)) = false := by simp
  cases q4 : l.all (rngB 0 ((nm : Int) - 1)) with
  | false =>
    have hq : wotF f g m M k xs l = (0, 2) := by unfold wotF; rw [q0, q1, hfl2, q2, ← hll, q4]; simp
    rw [hq]
    have H4 : Hid (rowOk k nm l = false) := Lib.hid (by unfold rowOk; rw [q4]; simp)
    clear q0 q1 q2 q4 hq hfl hll hml hfl2
    go_enter Tryz.func9, Tryz.ntmps9
    go_wp2_with fail
    generalize (w.alloc (.cells #[.slice a nm c, .slice a' nm c'] 26)).alloc (.cells #[.int .i64 k, .slice ab nb cb] 29) = w0 at *
    have hB0 := hB
    have lA0 := hA.two
    have lE0 := hE.two
    refine (l02Is_any _ _ _ _ _ _ _ _ _ (h1.f.below hB0) (h1.s.below hB0) hm1 hm2).mono ?_
    rintro e w1 ⟨rfl, hb1⟩
    rw [H0.out]
    have hB1 := below_th hB0 hb1
    replace hA := hA.below hb1 hA.lt
    replace hE := hE.below hb1 hE.lt
    have lA1 := hA.two
    have lE1 := hE.two
    clear lA0 lE0
    go_wp2_with fail
    refine (l16Is_any _ _ _ _ xs _ (hr.below hB1) hnb hs).mono ?_
    rintro e w2 ⟨rfl, hb2⟩
    rw [H1.out]
    have hB2 := below_th hB1 hb2
    replace hA := hA.below hb2 hA.lt
    replace hE := hE.below hb2 hE.lt
    have lA2 := hA.two
    have lE2 := hE.two
    clear lA1 lE1
    go_wp2_with fail
    refine (l18Code_any _ _ _ _ _ _ f g _ _ _ _ M _ (h1.f.below hB2) (h1.s.below hB2) hm1 hm2 (h5.below hB2) hnm _ H2.out).mono ?_
    rintro e w3 ⟨rfl, hb3⟩
    have hB3 := below_th hB2 hb3
    replace hA := hA.below hb3 hA.lt
    replace hE := hE.below hb3 hE.lt
    have lA3 := hA.two
    have lE3 := hE.two
    clear lA2 lE2
    go_wp2_with fail
    refine (l14Numbers_any _ _ _ _ _ l _ (hl.below hB3) hkl (by omega) (by omega)).mono ?_
    rintro e w4 ⟨rfl, rfl⟩
    rw [H4.out]
    have hB4 := hB3
    have lA4 := lA3
    have lE4 := lE3
    clear lA3 lE3
    go_wp2
    go_ret2
    exact ⟨rfl, hB4⟩
  | true =>
    have hq : wotF f g m M k xs l = (wtF nm f g M m xs l, 0) := by unfold wotF; rw [q0, q1, hfl2, q2, ← hll, q4]; simp
    rw [hq]
    have H4 : Hid (rowOk k nm l = true) := Lib.hid (by unfold rowOk; rw [q4, ← hll]; simp)
    have HLE : Hid (Less nm l) := Lib.hid (less_all q4)
    have HWD : Hid (IsWd k xs) := Lib.hid (isBr_wd q1)
    clear q0 q1 q2 q4 hq hfl hll hml hfl2
    go_enter Tryz.func9, Tryz.ntmps9
    go_wp2_with fail
    generalize (w.alloc (.cells #[.slice a nm c, .slice a' nm c'] 26)).alloc (.cells #[.int .i64 k, .slice ab nb cb] 29) = w0 at *
    have hB0 := hB
    have lA0 := hA.two
    have lE0 := hE.two
    refine (l02Is_any _ _ _ _ _ _ _ _ _ (h1.f.below hB0) (h1.s.below hB0) hm1 hm2).mono ?_
    rintro e w1 ⟨rfl, hb1⟩
    rw [H0.out]
    have hB1 := below_th hB0 hb1
    replace hA := hA.below hb1 hA.lt
    replace hE := hE.below hb1 hE.lt
    have lA1 := hA.two
    have lE1 := hE.two
    clear lA0 lE0
    go_wp2_with fail
    refine (l16Is_any _ _ _ _ xs _ (hr.below hB1) hnb hs).mono ?_
    rintro e w2 ⟨rfl, hb2⟩
    rw [H1.out]
    have hB2 := below_th hB1 hb2
    replace hA := hA.below hb2 hA.lt
    replace hE := hE.below hb2 hE.lt
    have lA2 := hA.two
    have lE2 := hE.two
    clear lA1 lE1
    go_wp2_with fail
    refine (l18Code_any _ _ _ _ _ _ f g _ _ _ _ M _ (h1.f.below hB2) (h1.s.below hB2) hm1 hm2 (h5.below hB2) hnm _ H2.out).mono ?_
    rintro e w3 ⟨rfl, hb3⟩
    have hB3 := below_th hB2 hb3
    replace hA := hA.below hb3 hA.lt
    replace hE := hE.below hb3 hE.lt
    have lA3 := hA.two
    have lE3 := hE.two
    clear lA2 lE2
    go_wp2_with fail
    refine (l14Numbers_any _ _ _ _ _ l _ (hl.below hB3) hkl (by omega) (by omega)).mono ?_
    rintro e w4 ⟨rfl, rfl⟩
    rw [H4.out]
    have hB4 := hB3
    have lA4 := lA3
    have lE4 := lE3
    clear lA3 lE3
    go_wp2_with fail
    refine (l18Sum_any _ _ _ _ _ f g _ _ _ M _ _ _ _ xs _ _ l _ (h1.f.below hB4) (h1.s.below hB4) hn1 hn12 HSF.out HSG.out HCC.out HMM.out HM.out (h5.below hB4) (hr.below hB4) hcap.1 hcap.2 HWD.out hs2 hs6 (hl.below hB4) HLE.out).mono ?_
    rintro e w5 ⟨rfl, hb5⟩
    have hB5 := below_th hB4 hb5
    replace hA := hA.below hb5 hA.lt
    replace hE := hE.below hb5 hE.lt
    have lA5 := hA.two
    have lE5 := hE.two
    clear lA4 lE4
    go_wp2
    go_ret2
    exact ⟨rfl, hB5⟩
end Go.Proofs.YtpdgpgbgakinlaaGreat

namespace Go.Proofs.YtpdgpgbgakinlaaGreat
set_option maxRecDepth 100000
set_option linter.unusedVariables false
set_option linter.unusedSimpArgs false
open Go.RowKit
def ckF (f g : List (List Int)) (s : Int) (xs l : List Int) : Int := if isSol f g then (if isBr s xs then (if (l.length : Int) = s then (if l.all (rngB 0 ((f.length : Int) - 1)) then 0 else 2) else 2) else 1) else 1
theorem ckF_zero {f g : List (List Int)} {s : Int} {xs l : List Int} (h : ckF f g s xs l = 0) : isSol f g = true ∧ isBr s xs = true ∧ (l.length : Int) = s ∧ Less f.length l := by
  unfold ckF at h
  by_cases h1 : isSol f g = true
  · rw [if_pos h1] at h
    by_cases h2 : isBr s xs = true
    · rw [if_pos h2] at h
      by_cases h3 : (l.length : Int) = s
      · rw [if_pos h3] at h
        by_cases h4 : l.all (rngB 0 ((f.length : Int) - 1)) = true
        · exact ⟨h1, h2, h3, less_all h4⟩
        · rw [if_neg h4] at h; omega
      · rw [if_neg h3] at h; omega
    · rw [if_neg h2] at h; omega
  · rw [if_neg h1] at h; omega
set_option maxHeartbeats 2000000 in
theorem checkAction_any (a : Option Addr) (n c : Nat) (a' : Option Addr) (n' c' : Nat) (f g : List (List Int)) (s : Int) (ab : Option Addr) (nb cb : Nat) (xs : List Int) (al : Option Addr) (m cl : Nat) (l : List Int) (w : World)
    (h1 : Tbl w a n f) (h2 : Tbl w a' n' g) (hm1 : n ≤ 9223372036854775807) (hm2 : n' ≤ 9223372036854775807) (hs : I64 s) (hr : Row w ab nb xs) (hnb : nb ≤ 9223372036854775807) (hl : Row w al m l) (hm : m ≤ 9223372036854775807) :
    Calls Tryz.prog 53 #[sAgg a n c a' n' c', bAgg s ab nb cb, .slice al m cl] w fun e w' => e = .returned (.int .i64 (ckF f g s xs l)) ∧ Below w.heap.size w w' := by
  have hA := (Loc.new w rfl #[.slice a n c, .slice a' n' c'] 26).alloc (.cells #[.int .i64 s, .slice ab nb cb] 29)
  have hE := Loc.new (w.alloc (.cells #[.slice a n c, .slice a' n' c'] 26)) rfl #[.int .i64 s, .slice ab nb cb] 29
  rw [size_alloc] at hE
  have hB := below_al (below_al (Below.refl w.heap.size w) (.cells #[.slice a n c, .slice a' n' c'] 26)) (.cells #[.int .i64 s, .slice ab nb cb] 29)
  cases q1 : isSol f g with
  | false =>
    have HQ : Hid (ckF f g s xs l = 1) := Lib.hid (by unfold ckF; rw [q1]; rfl)
    have H1 := Lib.hid q1; clear q1
    go_enter Tryz.func53, Tryz.ntmps53
    go_wp2_with fail
    generalize (w.alloc (.cells #[.slice a n c, .slice a' n' c'] 26)).alloc (.cells #[.int .i64 s, .slice ab nb cb] 29) = w0 at *
    refine (isSolution_any _ _ _ _ _ _ _ _ _ (h1.below hB) (h2.below hB) hm1 hm2).mono ?_
    rintro e w1 ⟨rfl, hb1⟩
    rw [H1.out]
    go_wp2
    go_ret
    exact ⟨ret_int HQ.out.symm, below_th hB hb1⟩
  | true =>
    have H1 := Lib.hid q1
    obtain ⟨hn1, hn12, _, _⟩ := isSol_sq q1
    have hfl := h1.len
    rw [← hfl] at hn1 hn12
    cases q2 : isBr s xs with
    | false =>
      have HQ : Hid (ckF f g s xs l = 1) := Lib.hid (by unfold ckF; rw [q1, q2]; rfl)
      have H2 := Lib.hid q2; clear q1 q2 hfl
      go_enter Tryz.func53, Tryz.ntmps53
      go_wp2_with fail
      generalize (w.alloc (.cells #[.slice a n c, .slice a' n' c'] 26)).alloc (.cells #[.int .i64 s, .slice ab nb cb] 29) = w0 at *
      refine (isSolution_any _ _ _ _ _ _ _ _ _ (h1.below hB) (h2.below hB) hm1 hm2).mono ?_
      rintro e w1 ⟨rfl, hb1⟩
      rw [H1.out]
      have lE := (hE.below hb1 hE.lt).two
      go_wp2_with fail
      refine (isBraid_any _ _ _ _ xs _ (hr.below (below_th hB hb1)) hnb).mono ?_
      rintro e w2 ⟨rfl, hb2⟩
      rw [H2.out]
      go_wp2
      go_ret
      exact ⟨ret_int HQ.out.symm, below_th (below_th hB hb1) hb2⟩
    | true =>
      have H2 := Lib.hid q2
      have hs26 := (isBr_let q2).1
      obtain ⟨S, rfl⟩ : ∃ S : Nat, s = S := ⟨s.toNat, by omega⟩
      have hml := hl.len
      by_cases q3 : m = S
      · subst q3
        have b3 : ((m : Int) != (m : Int)) = false := by simp
        have HQ : Hid (ckF f g m xs l = if l.all (rngB 0 ((n : Int) - 1)) then 0 else 2) := Lib.hid (by unfold ckF; rw [q1, q2, ← hfl, ← hml]; simp)
        clear q1 q2 hfl hml
        cases q4 : l.all (rngB 0 ((n : Int) - 1))
        all_goals
          have H4 := Lib.hid q4
          rw [q4] at HQ
          clear q4
          go_enter Tryz.func53, Tryz.ntmps53
          go_wp2_with fail
          generalize (w.alloc (.cells #[.slice a n c, .slice a' n' c'] 26)).alloc (.cells #[.int .i64 m, .slice ab nb cb] 29) = w0 at *
          refine (isSolution_any _ _ _ _ _ _ _ _ _ (h1.below hB) (h2.below hB) hm1 hm2).mono ?_
          rintro e w1 ⟨rfl, hb1⟩
          rw [H1.out]
          have hE1 := hE.below hb1 hE.lt
          have hA1 := hA.below hb1 hA.lt
          have lE := hE1.two
          have hB1 := below_th hB hb1
          clear hE hA hB hb1
          go_wp2_with fail
          refine (isBraid_any _ _ _ _ xs _ (hr.below hB1) hnb).mono ?_
          rintro e w2 ⟨rfl, hb2⟩
          rw [H2.out]
          have lE2 := (hE1.below hb2 hE1.lt).two
          have lA2 := (hA1.below hb2 hA1.lt).two
          have hB2 := below_th hB1 hb2
          clear lE hE1 hA1 hB1 hb2
          go_wp2_with fail
          refine (areElements_any _ _ _ _ l _ (hl.below hB2) hm (by omega)).mono ?_
          rintro e w3 ⟨rfl, rfl⟩
          rw [H4.out]
          go_wp2
          go_ret
          exact ⟨ret_int HQ.out.symm, hB2⟩
      · have b3 : ((m : Int) != (S : Int)) = true := by simp; omega
        have HQ : Hid (ckF f g S xs l = 2) := Lib.hid (by unfold ckF; rw [q1, q2, ← hml]; simp; omega)
        clear q1 q2 hfl hml q3
        go_enter Tryz.func53, Tryz.ntmps53
        go_wp2_with fail
        generalize (w.alloc (.cells #[.slice a n c, .slice a' n' c'] 26)).alloc (.cells #[.int .i64 S, .slice ab nb cb] 29) = w0 at *
        refine (isSolution_any _ _ _ _ _ _ _ _ _ (h1.below hB) (h2.below hB) hm1 hm2).mono ?_
        rintro e w1 ⟨rfl, hb1⟩
        rw [H1.out]
        have hE1 := hE.below hb1 hE.lt
        have lE := hE1.two
        have hB1 := below_th hB hb1
        go_wp2_with fail
        refine (isBraid_any _ _ _ _ xs _ (hr.below hB1) hnb).mono ?_
        rintro e w2 ⟨rfl, hb2⟩
        rw [H2.out]
        have lE2 := (hE1.below hb2 hE1.lt).two
        go_wp2
        go_ret
        exact ⟨ret_int HQ.out.symm, below_th hB1 hb2⟩
end Go.Proofs.YtpdgpgbgakinlaaGreat

namespace Go.Proofs.YtpdgpgbgakinlaaGreat
set_option maxRecDepth 100000
set_option linter.unusedVariables false
set_option linter.unusedSimpArgs false
open Go.RowKit
def bacF (f g : List (List Int)) (s : Int) (xs l : List Int) : List Int × Int := if ckF f g s xs l = 0 then (actL f.length f g xs l, 0) else ([], ckF f g s xs l)
end Go.Proofs.YtpdgpgbgakinlaaGreat
