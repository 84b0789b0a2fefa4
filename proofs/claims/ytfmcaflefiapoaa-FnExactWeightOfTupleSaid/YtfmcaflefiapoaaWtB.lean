/-
  WeightOfTuple: what the program's and the reference's compute.
  No condition but bounds.
-/
import Derived.Test.YtfmcaflefiapoaaWtFS
import Derived.Test.YtfmcaflefiapoaaElemI
namespace Go.Proofs.Ytfmcaflefiapoaa
set_option maxRecDepth 100000
set_option linter.unusedVariables false
set_option linter.unusedSimpArgs false
open Go.RowKit

/-- what WeightOfTuple hands back -/
def wotF (f g : List (List Int)) (m : Int) (M : List (List Int)) (s : Int) (xs l : List Int) : Int × Int :=
  if isSol f g then (if isBr s xs then (if isMx f.length m M then (if (l.length : Int) = s then (if l.all (rngB 0 ((f.length : Int) - 1)) then (wtF f.length f g M m xs l, 0) else (0, 2)) else (0, 2)) else (0, 2)) else (0, 1)) else (0, 1)

set_option maxHeartbeats 4000000 in
theorem impl_Wot_l (a : Option Addr) (n c : Nat) (f : List (List Int)) (a' : Option Addr) (n' c' : Nat) (g : List (List Int)) (m : Int) (am : Option Addr) (nm cm : Nat) (M : List (List Int)) (s : Int) (ab : Option Addr) (nb cb : Nat) (xs : List Int) (al : Option Addr) (k cl : Nat) (l : List Int) (w : World) (h1 : Sol w a n f a' n' g) (hm : n ≤ 9223372036854775807 ∧ n' ≤ 9223372036854775807) (hi : I64 m) (h5 : Tbl w am nm M) (hnm : nm ≤ 9223372036854775807) (hs : I64 s) (hr : Row w ab nb xs) (hnb : nb ≤ 9223372036854775807) (hx : I64s xs) (hcap : nb ≤ cb ∧ cb ≤ 9223372036854775807) (hl : Row w al k l) (hkl : k ≤ 9223372036854775807) (hxl : I64s l) :
    Calls Try.prog 20 #[sAgg a n c a' n' c', .int .i64 m, .slice am nm cm, bAgg s ab nb cb, .slice al k cl] w (RetI w (wotF f g m M s xs l).1 (wotF f g m M s xs l).2) := by
  obtain ⟨hm1, hm2⟩ := hm
  have hfl := h1.f.len
  have hll := hl.len
  have hml := h5.len
  have hA := (Loc.new w rfl #[.slice a n c, .slice a' n' c'] 33).alloc (.cells #[.int .i64 s, .slice ab nb cb] 36)
  have hE := Loc.new (w.alloc (.cells #[.slice a n c, .slice a' n' c'] 33)) rfl #[.int .i64 s, .slice ab nb cb] 36
  rw [size_alloc] at hE
  have hB := below_al (below_al (Below.refl w.heap.size w) (.cells #[.slice a n c, .slice a' n' c'] 33)) (.cells #[.int .i64 s, .slice ab nb cb] 36)
  by_cases q0 : isSol f g = true
  rotate_left
  · replace q0 : isSol f g = false := by simpa using q0
    have hq : wotF f g m M s xs l = (0, 1) := by unfold wotF; rw [q0]; rfl
    rw [hq]
    have H0 := Lib.hid q0
    clear q0 hq hfl hll hml
    go_enter Try.func20, Try.ntmps20
    go_wp2_with fail
    generalize (w.alloc (.cells #[.slice a n c, .slice a' n' c'] 33)).alloc (.cells #[.int .i64 s, .slice ab nb cb] 36) = w0 at *
    have hB0 := hB
    have lA0 := hA.two
    have lE0 := hE.two
    refine (isSolution_any _ _ _ _ _ _ _ _ _ (h1.f.below hB0) (h1.s.below hB0) hm1 hm2).mono ?_
    rintro e w1 ⟨rfl, hb1⟩
    rw [H0.out]
    have hB1 := below_th hB0 hb1
    replace hA := hA.below hb1 hA.lt
    replace hE := hE.below hb1 hE.lt
    have lA1 := hA.two
    have lE1 := hE.two
    clear lA0 lE0
    go_wp2
    go_ret2
    exact ⟨rfl, hB1⟩
  have H0 := Lib.hid q0
  by_cases q1 : isBr s xs = true
  rotate_left
  · replace q1 : isBr s xs = false := by simpa using q1
    have hq : wotF f g m M s xs l = (0, 1) := by unfold wotF; rw [q0, q1]; rfl
    rw [hq]
    have H1 := Lib.hid q1
    clear q0 q1 hq hfl hll hml
    go_enter Try.func20, Try.ntmps20
    go_wp2_with fail
    generalize (w.alloc (.cells #[.slice a n c, .slice a' n' c'] 33)).alloc (.cells #[.int .i64 s, .slice ab nb cb] 36) = w0 at *
    have hB0 := hB
    have lA0 := hA.two
    have lE0 := hE.two
    refine (isSolution_any _ _ _ _ _ _ _ _ _ (h1.f.below hB0) (h1.s.below hB0) hm1 hm2).mono ?_
    rintro e w1 ⟨rfl, hb1⟩
    rw [H0.out]
    have hB1 := below_th hB0 hb1
    replace hA := hA.below hb1 hA.lt
    replace hE := hE.below hb1 hE.lt
    have lA1 := hA.two
    have lE1 := hE.two
    clear lA0 lE0
    go_wp2_with fail
    refine (isBraid_any _ _ _ _ xs _ (hr.below hB1) hnb).mono ?_
    rintro e w2 ⟨rfl, hb2⟩
    rw [H1.out]
    have hB2 := below_th hB1 hb2
    replace hA := hA.below hb2 hA.lt
    replace hE := hE.below hb2 hE.lt
    have lA2 := hA.two
    have lE2 := hE.two
    clear lA1 lE1
    go_wp2
    go_ret2
    exact ⟨rfl, hB2⟩
  have H1 := Lib.hid q1
  obtain ⟨hn1, hn12, sf, sg⟩ := isSol_sq q0
  have hcc := isSol_coll q0
  have hl2 : n' = n := by rw [h1.s.len, hfl]; have := sg.len; omega
  subst hl2
  have hs26 := (isBr_let q1).1
  obtain ⟨S, rfl⟩ : ∃ S : Nat, s = S := ⟨s.toNat, by omega⟩
  have hfl2 : f.length = n' := hfl.symm
  rw [hfl2] at hn1 hn12 sf sg hcc
  have HSF := Lib.hid sf; have HSG := Lib.hid sg; have HCC := Lib.hid hcc
  have hs2 : 2 ≤ S := by omega
  have hs6 : S ≤ 6 := by omega
  clear sf sg hcc
  by_cases q2 : isMx n' m M = true
  rotate_left
  · replace q2 : isMx n' m M = false := by simpa using q2
    have hq : wotF f g m M S xs l = (0, 2) := by unfold wotF; rw [q0, q1, hfl2, q2]; rfl
    rw [hq]
    have H2 := Lib.hid q2
    clear q0 q1 q2 hq hfl hll hml hfl2
    go_enter Try.func20, Try.ntmps20
    go_wp2_with fail
    generalize (w.alloc (.cells #[.slice a n' c, .slice a' n' c'] 33)).alloc (.cells #[.int .i64 S, .slice ab nb cb] 36) = w0 at *
    have hB0 := hB
    have lA0 := hA.two
    have lE0 := hE.two
    refine (isSolution_any _ _ _ _ _ _ _ _ _ (h1.f.below hB0) (h1.s.below hB0) hm1 hm2).mono ?_
    rintro e w1 ⟨rfl, hb1⟩
    rw [H0.out]
    have hB1 := below_th hB0 hb1
    replace hA := hA.below hb1 hA.lt
    replace hE := hE.below hb1 hE.lt
    have lA1 := hA.two
    have lE1 := hE.two
    clear lA0 lE0
    go_wp2_with fail
    refine (isBraid_any _ _ _ _ xs _ (hr.below hB1) hnb).mono ?_
    rintro e w2 ⟨rfl, hb2⟩
    rw [H1.out]
    have hB2 := below_th hB1 hb2
    replace hA := hA.below hb2 hA.lt
    replace hE := hE.below hb2 hE.lt
    have lA2 := hA.two
    have lE2 := hE.two
    clear lA1 lE1
    go_wp2_with fail
    refine (isMatrix_any _ _ _ _ _ M _ (h5.below hB2) hnm).mono ?_
    rintro e w3 ⟨rfl, hb3⟩
    rw [H2.out]
    have hB3 := below_th hB2 hb3
    replace hA := hA.below hb3 hA.lt
    replace hE := hE.below hb3 hE.lt
    have lA3 := hA.two
    have lE3 := hE.two
    clear lA2 lE2
    go_wp2
    go_ret2
    exact ⟨rfl, hB3⟩
  obtain ⟨hmm, hM⟩ := isMx_sq q2
  have HMM := Lib.hid hmm; have HM := Lib.hid hM
  have hlm : nm = n' := by rw [hml]; exact hM.1
  subst hlm
  clear hmm hM
  have H2 := Lib.hid q2
  by_cases q3 : k = S
  rotate_left
  · have b3 : ((k : Int) != (S : Int)) = true := by simp; omega
    have hq : wotF f g m M S xs l = (0, 2) := by unfold wotF; rw [q0, q1, hfl2, q2, ← hll]; simp; omega
    rw [hq]
    clear q0 q1 q2 q3 hq hfl hll hml hfl2
    go_enter Try.func20, Try.ntmps20
    go_wp2_with fail
    generalize (w.alloc (.cells #[.slice a nm c, .slice a' nm c'] 33)).alloc (.cells #[.int .i64 S, .slice ab nb cb] 36) = w0 at *
    have hB0 := hB
    have lA0 := hA.two
    have lE0 := hE.two
    refine (isSolution_any _ _ _ _ _ _ _ _ _ (h1.f.below hB0) (h1.s.below hB0) hm1 hm2).mono ?_
    rintro e w1 ⟨rfl, hb1⟩
    rw [H0.out]
    have hB1 := below_th hB0 hb1
    replace hA := hA.below hb1 hA.lt
    replace hE := hE.below hb1 hE.lt
    have lA1 := hA.two
    have lE1 := hE.two
    clear lA0 lE0
    go_wp2_with fail
    refine (isBraid_any _ _ _ _ xs _ (hr.below hB1) hnb).mono ?_
    rintro e w2 ⟨rfl, hb2⟩
    rw [H1.out]
    have hB2 := below_th hB1 hb2
    replace hA := hA.below hb2 hA.lt
    replace hE := hE.below hb2 hE.lt
    have lA2 := hA.two
    have lE2 := hE.two
    clear lA1 lE1
    go_wp2_with fail
    refine (isMatrix_any _ _ _ _ _ M _ (h5.below hB2) hnm).mono ?_
    rintro e w3 ⟨rfl, hb3⟩
    rw [H2.out]
    have hB3 := below_th hB2 hb3
    replace hA := hA.below hb3 hA.lt
    replace hE := hE.below hb3 hE.lt
    have lA3 := hA.two
    have lE3 := hE.two
    clear lA2 lE2
    go_wp2
    go_ret2
    exact ⟨rfl, hB3⟩
  subst q3
  have b3 : ((k : Int) != (k : Int)) = false := by simp
  cases q4 : l.all (rngB 0 ((nm : Int) - 1)) with
  | false =>
    have hq : wotF f g m M k xs l = (0, 2) := by unfold wotF; rw [q0, q1, hfl2, q2, ← hll, q4]; simp
    rw [hq]
    have H4 := Lib.hid q4
    clear q0 q1 q2 q4 hq hfl hll hml hfl2
    go_enter Try.func20, Try.ntmps20
    go_wp2_with fail
    generalize (w.alloc (.cells #[.slice a nm c, .slice a' nm c'] 33)).alloc (.cells #[.int .i64 k, .slice ab nb cb] 36) = w0 at *
    have hB0 := hB
    have lA0 := hA.two
    have lE0 := hE.two
    refine (isSolution_any _ _ _ _ _ _ _ _ _ (h1.f.below hB0) (h1.s.below hB0) hm1 hm2).mono ?_
    rintro e w1 ⟨rfl, hb1⟩
    rw [H0.out]
    have hB1 := below_th hB0 hb1
    replace hA := hA.below hb1 hA.lt
    replace hE := hE.below hb1 hE.lt
    have lA1 := hA.two
    have lE1 := hE.two
    clear lA0 lE0
    go_wp2_with fail
    refine (isBraid_any _ _ _ _ xs _ (hr.below hB1) hnb).mono ?_
    rintro e w2 ⟨rfl, hb2⟩
    rw [H1.out]
    have hB2 := below_th hB1 hb2
    replace hA := hA.below hb2 hA.lt
    replace hE := hE.below hb2 hE.lt
    have lA2 := hA.two
    have lE2 := hE.two
    clear lA1 lE1
    go_wp2_with fail
    refine (isMatrix_any _ _ _ _ _ M _ (h5.below hB2) hnm).mono ?_
    rintro e w3 ⟨rfl, hb3⟩
    rw [H2.out]
    have hB3 := below_th hB2 hb3
    replace hA := hA.below hb3 hA.lt
    replace hE := hE.below hb3 hE.lt
    have lA3 := hA.two
    have lE3 := hE.two
    clear lA2 lE2
    go_wp2_with fail
    refine (areElements_any _ _ _ _ l _ (hl.below hB3) hkl (by omega)).mono ?_
    rintro e w4 ⟨rfl, rfl⟩
    rw [H4.out]
    have hB4 := hB3
    have lA4 := lA3
    have lE4 := lE3
    clear lA3 lE3
    go_wp2
    go_ret2
    exact ⟨rfl, hB4⟩
  | true =>
    have hq : wotF f g m M k xs l = (wtF nm f g M m xs l, 0) := by unfold wotF; rw [q0, q1, hfl2, q2, ← hll, q4]; simp
    rw [hq]
    have H4 := Lib.hid q4
    have HLE : Hid (Less nm l) := Lib.hid (less_all q4)
    have HWD : Hid (IsWd k xs) := Lib.hid (isBr_wd q1)
    clear q0 q1 q2 q4 hq hfl hll hml hfl2
    go_enter Try.func20, Try.ntmps20
    go_wp2_with fail
    generalize (w.alloc (.cells #[.slice a nm c, .slice a' nm c'] 33)).alloc (.cells #[.int .i64 k, .slice ab nb cb] 36) = w0 at *
    have hB0 := hB
    have lA0 := hA.two
    have lE0 := hE.two
    refine (isSolution_any _ _ _ _ _ _ _ _ _ (h1.f.below hB0) (h1.s.below hB0) hm1 hm2).mono ?_
    rintro e w1 ⟨rfl, hb1⟩
    rw [H0.out]
    have hB1 := below_th hB0 hb1
    replace hA := hA.below hb1 hA.lt
    replace hE := hE.below hb1 hE.lt
    have lA1 := hA.two
    have lE1 := hE.two
    clear lA0 lE0
    go_wp2_with fail
    refine (isBraid_any _ _ _ _ xs _ (hr.below hB1) hnb).mono ?_
    rintro e w2 ⟨rfl, hb2⟩
    rw [H1.out]
    have hB2 := below_th hB1 hb2
    replace hA := hA.below hb2 hA.lt
    replace hE := hE.below hb2 hE.lt
    have lA2 := hA.two
    have lE2 := hE.two
    clear lA1 lE1
    go_wp2_with fail
    refine (isMatrix_any _ _ _ _ _ M _ (h5.below hB2) hnm).mono ?_
    rintro e w3 ⟨rfl, hb3⟩
    rw [H2.out]
    have hB3 := below_th hB2 hb3
    replace hA := hA.below hb3 hA.lt
    replace hE := hE.below hb3 hE.lt
    have lA3 := hA.two
    have lE3 := hE.two
    clear lA2 lE2
    go_wp2_with fail
    refine (areElements_any _ _ _ _ l _ (hl.below hB3) hkl (by omega)).mono ?_
    rintro e w4 ⟨rfl, rfl⟩
    rw [H4.out]
    have hB4 := hB3
    have lA4 := lA3
    have lE4 := lE3
    clear lA3 lE3
    have hq0 := hB4.size
    go_wp2
    go_region_held3 (fun w' => (w'.cell? ⟨w.heap.size, 0, none⟩ = some (.slice a nm c) ∧ w'.cell? ⟨w.heap.size, 1, none⟩ = some (.slice a' nm c')) ∧ w'.cell? ⟨w.heap.size + 1, 1, none⟩ = some (.slice ab nb cb))
      (first | exact ⟨(hA.below hy2 hA.lt).held2, (hE.below hy2 hE.lt).held2.2⟩ | exact ⟨(hA.below hy1 hA.lt).held2, (hE.below hy1 hE.lt).held2.2⟩ | exact ⟨hA.held2, hE.held2.2⟩)
      (first
        | (go_at_call 61; refine (newAction_any _ _ _ _ _ f g _ ((h1.f.below hB4).drewN 1) ((h1.s.below hB4).drewN 1) H0.out hn12).mono ?_; rintro e v1 ⟨b, d, vs, b', d', vs', rfl, ho, hv1⟩; have hy1 := below_undrew hv1; have hz1 := below_th hB4 hy1)
        | (go_at_call 60; refine (weightOf_any _ _ _ _ _ _ _ _ _ f g _ _ _ M _ _ _ _ xs _ _ l _ (h1.f.below hz1) (h1.s.below hz1) ho.f.tbl ho.s.tbl hn1 HSF.out HSG.out HCC.out HMM.out HM.out (h5.below hz1) (hr.below hz1) HWD.out hs2 hs6 (hl.below hz1) HLE.out).mono ?_; rintro e v2 ⟨rfl, hv2⟩; have hy2 := below_th hy1 hv2; have hz2 := below_th hz1 hv2))
    all_goals
      go_wp2
      go_ret2
      exact ⟨rfl, hz2⟩

set_option maxHeartbeats 4000000 in
theorem spec_Wot_l (a : Option Addr) (n c : Nat) (f : List (List Int)) (a' : Option Addr) (n' c' : Nat) (g : List (List Int)) (m : Int) (am : Option Addr) (nm cm : Nat) (M : List (List Int)) (s : Int) (ab : Option Addr) (nb cb : Nat) (xs : List Int) (al : Option Addr) (k cl : Nat) (l : List Int) (w : World) (h1 : Sol w a n f a' n' g) (hm : n ≤ 9223372036854775807 ∧ n' ≤ 9223372036854775807) (hi : I64 m) (h5 : Tbl w am nm M) (hnm : nm ≤ 9223372036854775807) (hs : I64 s) (hr : Row w ab nb xs) (hnb : nb ≤ 9223372036854775807) (hx : I64s xs) (hcap : nb ≤ cb ∧ cb ≤ 9223372036854775807) (hl : Row w al k l) (hkl : k ≤ 9223372036854775807) (hxl : I64s l) :
    Calls Try.prog 15 #[sAgg a n c a' n' c', .int .i64 m, .slice am nm cm, bAgg s ab nb cb, .slice al k cl] w (RetI w (wotF f g m M s xs l).1 (wotF f g m M s xs l).2) := by
  obtain ⟨hm1, hm2⟩ := hm
  have hfl := h1.f.len
  have hll := hl.len
  have hml := h5.len
  have hA := (Loc.new w rfl #[.slice a n c, .slice a' n' c'] 33).alloc (.cells #[.int .i64 s, .slice ab nb cb] 36)
  have hE := Loc.new (w.alloc (.cells #[.slice a n c, .slice a' n' c'] 33)) rfl #[.int .i64 s, .slice ab nb cb] 36
  rw [size_alloc] at hE
  have hB := below_al (below_al (Below.refl w.heap.size w) (.cells #[.slice a n c, .slice a' n' c'] 33)) (.cells #[.int .i64 s, .slice ab nb cb] 36)
  by_cases q0 : isSol f g = true
  rotate_left
  · replace q0 : isSol f g = false := by simpa using q0
    have hq : wotF f g m M s xs l = (0, 1) := by unfold wotF; rw [q0]; rfl
    rw [hq]
    have H0 := Lib.hid q0
    clear q0 hq hfl hll hml
    go_enter Try.func15, Try.ntmps15
    go_wp2_with fail
    generalize (w.alloc (.cells #[.slice a n c, .slice a' n' c'] 33)).alloc (.cells #[.int .i64 s, .slice ab nb cb] 36) = w0 at *
    have hB0 := hB
    have lA0 := hA.two
    have lE0 := hE.two
    refine (l02Is_any _ _ _ _ _ _ _ _ _ (h1.f.below hB0) (h1.s.below hB0) hm1 hm2).mono ?_
    rintro e w1 ⟨rfl, hb1⟩
    rw [H0.out]
    have hB1 := below_th hB0 hb1
    replace hA := hA.below hb1 hA.lt
    replace hE := hE.below hb1 hE.lt
    have lA1 := hA.two
    have lE1 := hE.two
    clear lA0 lE0
    go_wp2
    go_ret2
    exact ⟨rfl, hB1⟩
  have H0 := Lib.hid q0
  by_cases q1 : isBr s xs = true
  rotate_left
  · replace q1 : isBr s xs = false := by simpa using q1
    have hq : wotF f g m M s xs l = (0, 1) := by unfold wotF; rw [q0, q1]; rfl
    rw [hq]
    have H1 := Lib.hid q1
    clear q0 q1 hq hfl hll hml
    go_enter Try.func15, Try.ntmps15
    go_wp2_with fail
    generalize (w.alloc (.cells #[.slice a n c, .slice a' n' c'] 33)).alloc (.cells #[.int .i64 s, .slice ab nb cb] 36) = w0 at *
    have hB0 := hB
    have lA0 := hA.two
    have lE0 := hE.two
    refine (l02Is_any _ _ _ _ _ _ _ _ _ (h1.f.below hB0) (h1.s.below hB0) hm1 hm2).mono ?_
    rintro e w1 ⟨rfl, hb1⟩
    rw [H0.out]
    have hB1 := below_th hB0 hb1
    replace hA := hA.below hb1 hA.lt
    replace hE := hE.below hb1 hE.lt
    have lA1 := hA.two
    have lE1 := hE.two
    clear lA0 lE0
    go_wp2_with fail
    refine (l16Is_any _ _ _ _ xs _ (hr.below hB1) hnb hs).mono ?_
    rintro e w2 ⟨rfl, hb2⟩
    rw [H1.out]
    have hB2 := below_th hB1 hb2
    replace hA := hA.below hb2 hA.lt
    replace hE := hE.below hb2 hE.lt
    have lA2 := hA.two
    have lE2 := hE.two
    clear lA1 lE1
    go_wp2
    go_ret2
    exact ⟨rfl, hB2⟩
  have H1 := Lib.hid q1
  obtain ⟨hn1, hn12, sf, sg⟩ := isSol_sq q0
  have hcc := isSol_coll q0
  have hl2 : n' = n := by rw [h1.s.len, hfl]; have := sg.len; omega
  subst hl2
  have hs26 := (isBr_let q1).1
  obtain ⟨S, rfl⟩ : ∃ S : Nat, s = S := ⟨s.toNat, by omega⟩
  have hfl2 : f.length = n' := hfl.symm
  rw [hfl2] at hn1 hn12 sf sg hcc
  have HSF := Lib.hid sf; have HSG := Lib.hid sg; have HCC := Lib.hid hcc
  have hs2 : 2 ≤ S := by omega
  have hs6 : S ≤ 6 := by omega
  clear sf sg hcc
  by_cases q2 : isMx n' m M = true
  rotate_left
  · replace q2 : isMx n' m M = false := by simpa using q2
    have hq : wotF f g m M S xs l = (0, 2) := by unfold wotF; rw [q0, q1, hfl2, q2]; rfl
    rw [hq]
    have H2 : Hid ((if isSol f g then (if isMx n' m M then 0 else 2) else 1) = (2 : Int)) := Lib.hid (by rw [q0, q2]; rfl)
    clear q0 q1 q2 hq hfl hll hml hfl2
    go_enter Try.func15, Try.ntmps15
    go_wp2_with fail
    generalize (w.alloc (.cells #[.slice a n' c, .slice a' n' c'] 33)).alloc (.cells #[.int .i64 S, .slice ab nb cb] 36) = w0 at *
    have hB0 := hB
    have lA0 := hA.two
    have lE0 := hE.two
    refine (l02Is_any _ _ _ _ _ _ _ _ _ (h1.f.below hB0) (h1.s.below hB0) hm1 hm2).mono ?_
    rintro e w1 ⟨rfl, hb1⟩
    rw [H0.out]
    have hB1 := below_th hB0 hb1
    replace hA := hA.below hb1 hA.lt
    replace hE := hE.below hb1 hE.lt
    have lA1 := hA.two
    have lE1 := hE.two
    clear lA0 lE0
    go_wp2_with fail
    refine (l16Is_any _ _ _ _ xs _ (hr.below hB1) hnb hs).mono ?_
    rintro e w2 ⟨rfl, hb2⟩
    rw [H1.out]
    have hB2 := below_th hB1 hb2
    replace hA := hA.below hb2 hA.lt
    replace hE := hE.below hb2 hE.lt
    have lA2 := hA.two
    have lE2 := hE.two
    clear lA1 lE1
    go_wp2_with fail
    refine (l18Code_any _ _ _ _ _ _ f g _ _ _ _ M _ (h1.f.below hB2) (h1.s.below hB2) hm1 hm2 (h5.below hB2) hnm _ H2.out).mono ?_
    rintro e w3 ⟨rfl, hb3⟩
    have hB3 := below_th hB2 hb3
    replace hA := hA.below hb3 hA.lt
    replace hE := hE.below hb3 hE.lt
    have lA3 := hA.two
    have lE3 := hE.two
    clear lA2 lE2
    go_wp2
    go_ret2
    exact ⟨rfl, hB3⟩
  obtain ⟨hmm, hM⟩ := isMx_sq q2
  have HMM := Lib.hid hmm; have HM := Lib.hid hM
  have hlm : nm = n' := by rw [hml]; exact hM.1
  subst hlm
  clear hmm hM
  have H2 : Hid ((if isSol f g then (if isMx nm m M then 0 else 2) else 1) = (0 : Int)) := Lib.hid (by rw [q0, q2]; rfl)
  by_cases q3 : k = S
  rotate_left
  · have b3 : ((k : Int) != (S : Int)) = true := by simp; omega
    have hq : wotF f g m M S xs l = (0, 2) := by unfold wotF; rw [q0, q1, hfl2, q2, ← hll]; simp; omega
    rw [hq]
    clear q0 q1 q2 q3 hq hfl hll hml hfl2
    go_enter Try.func15, Try.ntmps15
    go_wp2_with fail
    generalize (w.alloc (.cells #[.slice a nm c, .slice a' nm c'] 33)).alloc (.cells #[.int .i64 S, .slice ab nb cb] 36) = w0 at *
    have hB0 := hB
    have lA0 := hA.two
    have lE0 := hE.two
    refine (l02Is_any _ _ _ _ _ _ _ _ _ (h1.f.below hB0) (h1.s.below hB0) hm1 hm2).mono ?_
    rintro e w1 ⟨rfl, hb1⟩
    rw [H0.out]
    have hB1 := below_th hB0 hb1
    replace hA := hA.below hb1 hA.lt
    replace hE := hE.below hb1 hE.lt
    have lA1 := hA.two
    have lE1 := hE.two
    clear lA0 lE0
    go_wp2_with fail
    refine (l16Is_any _ _ _ _ xs _ (hr.below hB1) hnb hs).mono ?_
    rintro e w2 ⟨rfl, hb2⟩
    rw [H1.out]
    have hB2 := below_th hB1 hb2
    replace hA := hA.below hb2 hA.lt
    replace hE := hE.below hb2 hE.lt
    have lA2 := hA.two
    have lE2 := hE.two
    clear lA1 lE1
    go_wp2_with fail
    refine (l18Code_any _ _ _ _ _ _ f g _ _ _ _ M _ (h1.f.below hB2) (h1.s.below hB2) hm1 hm2 (h5.below hB2) hnm _ H2.out).mono ?_
    rintro e w3 ⟨rfl, hb3⟩
    have hB3 := below_th hB2 hb3
    replace hA := hA.below hb3 hA.lt
    replace hE := hE.below hb3 hE.lt
    have lA3 := hA.two
    have lE3 := hE.two
    clear lA2 lE2
    go_wp2
    go_ret2
    exact ⟨rfl, hB3⟩
  subst q3
  have b3 : ((k : Int) != (k : Int)) = false := by simp
  cases q4 : l.all (rngB 0 ((nm : Int) - 1)) with
  | false =>
    have hq : wotF f g m M k xs l = (0, 2) := by unfold wotF; rw [q0, q1, hfl2, q2, ← hll, q4]; simp
    rw [hq]
    have H4 : Hid (rowOk k nm l = false) := Lib.hid (by unfold rowOk; rw [q4]; simp)
    clear q0 q1 q2 q4 hq hfl hll hml hfl2
    go_enter Try.func15, Try.ntmps15
    go_wp2_with fail
    generalize (w.alloc (.cells #[.slice a nm c, .slice a' nm c'] 33)).alloc (.cells #[.int .i64 k, .slice ab nb cb] 36) = w0 at *
    have hB0 := hB
    have lA0 := hA.two
    have lE0 := hE.two
    refine (l02Is_any _ _ _ _ _ _ _ _ _ (h1.f.below hB0) (h1.s.below hB0) hm1 hm2).mono ?_
    rintro e w1 ⟨rfl, hb1⟩
    rw [H0.out]
    have hB1 := below_th hB0 hb1
    replace hA := hA.below hb1 hA.lt
    replace hE := hE.below hb1 hE.lt
    have lA1 := hA.two
    have lE1 := hE.two
    clear lA0 lE0
    go_wp2_with fail
    refine (l16Is_any _ _ _ _ xs _ (hr.below hB1) hnb hs).mono ?_
    rintro e w2 ⟨rfl, hb2⟩
    rw [H1.out]
    have hB2 := below_th hB1 hb2
    replace hA := hA.below hb2 hA.lt
    replace hE := hE.below hb2 hE.lt
    have lA2 := hA.two
    have lE2 := hE.two
    clear lA1 lE1
    go_wp2_with fail
    refine (l18Code_any _ _ _ _ _ _ f g _ _ _ _ M _ (h1.f.below hB2) (h1.s.below hB2) hm1 hm2 (h5.below hB2) hnm _ H2.out).mono ?_
    rintro e w3 ⟨rfl, hb3⟩
    have hB3 := below_th hB2 hb3
    replace hA := hA.below hb3 hA.lt
    replace hE := hE.below hb3 hE.lt
    have lA3 := hA.two
    have lE3 := hE.two
    clear lA2 lE2
    go_wp2_with fail
    refine (l14Numbers_any _ _ _ _ _ l _ (hl.below hB3) hkl (by omega) (by omega)).mono ?_
    rintro e w4 ⟨rfl, rfl⟩
    rw [H4.out]
    have hB4 := hB3
    have lA4 := lA3
    have lE4 := lE3
    clear lA3 lE3
    go_wp2
    go_ret2
    exact ⟨rfl, hB4⟩
  | true =>
    have hq : wotF f g m M k xs l = (wtF nm f g M m xs l, 0) := by unfold wotF; rw [q0, q1, hfl2, q2, ← hll, q4]; simp
    rw [hq]
    have H4 : Hid (rowOk k nm l = true) := Lib.hid (by unfold rowOk; rw [q4, ← hll]; simp)
    have HLE : Hid (Less nm l) := Lib.hid (less_all q4)
    have HWD : Hid (IsWd k xs) := Lib.hid (isBr_wd q1)
    clear q0 q1 q2 q4 hq hfl hll hml hfl2
    go_enter Try.func15, Try.ntmps15
    go_wp2_with fail
    generalize (w.alloc (.cells #[.slice a nm c, .slice a' nm c'] 33)).alloc (.cells #[.int .i64 k, .slice ab nb cb] 36) = w0 at *
    have hB0 := hB
    have lA0 := hA.two
    have lE0 := hE.two
    refine (l02Is_any _ _ _ _ _ _ _ _ _ (h1.f.below hB0) (h1.s.below hB0) hm1 hm2).mono ?_
    rintro e w1 ⟨rfl, hb1⟩
    rw [H0.out]
    have hB1 := below_th hB0 hb1
    replace hA := hA.below hb1 hA.lt
    replace hE := hE.below hb1 hE.lt
    have lA1 := hA.two
    have lE1 := hE.two
    clear lA0 lE0
    go_wp2_with fail
    refine (l16Is_any _ _ _ _ xs _ (hr.below hB1) hnb hs).mono ?_
    rintro e w2 ⟨rfl, hb2⟩
    rw [H1.out]
    have hB2 := below_th hB1 hb2
    replace hA := hA.below hb2 hA.lt
    replace hE := hE.below hb2 hE.lt
    have lA2 := hA.two
    have lE2 := hE.two
    clear lA1 lE1
    go_wp2_with fail
    refine (l18Code_any _ _ _ _ _ _ f g _ _ _ _ M _ (h1.f.below hB2) (h1.s.below hB2) hm1 hm2 (h5.below hB2) hnm _ H2.out).mono ?_
    rintro e w3 ⟨rfl, hb3⟩
    have hB3 := below_th hB2 hb3
    replace hA := hA.below hb3 hA.lt
    replace hE := hE.below hb3 hE.lt
    have lA3 := hA.two
    have lE3 := hE.two
    clear lA2 lE2
    go_wp2_with fail
    refine (l14Numbers_any _ _ _ _ _ l _ (hl.below hB3) hkl (by omega) (by omega)).mono ?_
    rintro e w4 ⟨rfl, rfl⟩
    rw [H4.out]
    have hB4 := hB3
    have lA4 := lA3
    have lE4 := lE3
    clear lA3 lE3
    go_wp2_with fail
    refine (l18Sum_any _ _ _ _ _ f g _ _ _ M _ _ _ _ xs _ _ l _ (h1.f.below hB4) (h1.s.below hB4) hn1 hn12 HSF.out HSG.out HCC.out HMM.out HM.out (h5.below hB4) (hr.below hB4) hcap.1 hcap.2 HWD.out hs2 hs6 (hl.below hB4) HLE.out).mono ?_
    rintro e w5 ⟨rfl, hb5⟩
    have hB5 := below_th hB4 hb5
    replace hA := hA.below hb5 hA.lt
    replace hE := hE.below hb5 hE.lt
    have lA5 := hA.two
    have lE5 := hE.two
    clear lA4 lE4
    go_wp2
    go_ret2
    exact ⟨rfl, hB5⟩

end Go.Proofs.Ytfmcaflefiapoaa
