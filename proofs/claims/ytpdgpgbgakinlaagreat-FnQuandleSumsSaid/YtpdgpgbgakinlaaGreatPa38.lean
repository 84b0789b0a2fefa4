/-
  Walks and plain laws of this seat, some texts in one.
  No condition but bounds on lengths.
-/
import Derived.Test.YtpdgpgbgakinlaaGreatPa28
import Derived.Test.YtpdgpgbgakinlaaGreatPa9
import Derived.Test.YtpdgpgbgakinlaaGreatPa21
import Derived.Test.YtpdgpgbgakinlaaGreatPa2
import Derived.Test.YtpdgpgbgakinlaaGreatPa22
import Derived.Test.YtpdgpgbgakinlaaGreatPa32
import Derived.Test.YtpdgpgbgakinlaaGreatPa12
import Derived.Test.YtpdgpgbgakinlaaGreatPa7
import Derived.Test.YtpdgpgbgakinlaaGreatPa35
import Derived.Test.YtpdgpgbgakinlaaGreatPa8
namespace Go.Proofs.YtpdgpgbgakinlaaGreat
set_option maxRecDepth 100000
set_option linter.unusedVariables false
set_option linter.unusedSimpArgs false
open Go.RowKit
def bouF (f g : List (List Int)) (m : Int) (gs : List Int) : List (List Int) × Int :=
  if isSol f g then (if rngB 1 12 m then (if rowOk f.length m gs then (bndL f.length m f g gs, 0) else ([], 2)) else ([], 2)) else ([], 1)
theorem bouF_no {f g : List (List Int)} {m : Int} {gs : List Int} (h : isSol f g = false) : bouF f g m gs = ([], 1) := by unfold bouF; rw [h]; rfl
theorem bouF_m {f g : List (List Int)} {m : Int} {gs : List Int} (h : isSol f g = true) (h2 : rngB 1 12 m = false) : bouF f g m gs = ([], 2) := by unfold bouF; rw [h, h2]; rfl
theorem bouF_r {f g : List (List Int)} {m : Int} {gs : List Int} (h : isSol f g = true) (h2 : rngB 1 12 m = true) (h3 : rowOk f.length m gs = false) : bouF f g m gs = ([], 2) := by unfold bouF; rw [h, h2, h3]; rfl
theorem bouF_ok {f g : List (List Int)} {m : Int} {gs : List Int} (h : isSol f g = true) (h2 : rngB 1 12 m = true) (h3 : rowOk f.length m gs = true) : bouF f g m gs = (bndL f.length m f g gs, 0) := by unfold bouF; rw [h, h2, h3]; rfl
set_option maxHeartbeats 2000000 in
theorem impl_Bou_l (a : Option Addr) (n c : Nat) (f : List (List Int)) (a' : Option Addr) (n' c' : Nat) (g : List (List Int)) (m : Int) (al : Option Addr) (nl cl : Nat) (gs : List Int) (w : World) (h1 : Sol w a n f a' n' g) (hm : n ≤ 9223372036854775807 ∧ n' ≤ 9223372036854775807) (hi : I64 m) (hr : Row w al nl gs) (hnl : nl ≤ 9223372036854775807) (hx : I64s gs) :
    Calls Tryz.prog 25 #[sAgg a n c a' n' c', .int .i64 m, .slice al nl cl] w (RetT w (bouF f g m gs).1 (bouF f g m gs).2) := by
  obtain ⟨hm1, hm2⟩ := hm
  have hA := ((Loc.new w rfl #[.slice a n c, .slice a' n' c'] 26).alloc (.cells #[.int .i64 m] 2)).alloc (.cells #[.slice al nl cl] 27)
  have hM := (Loc.new (w.alloc (.cells #[.slice a n c, .slice a' n' c'] 26)) rfl #[.int .i64 m] 2).alloc (.cells #[.slice al nl cl] 27)
  have hG := Loc.new ((w.alloc (.cells #[.slice a n c, .slice a' n' c'] 26)).alloc (.cells #[.int .i64 m] 2)) rfl #[.slice al nl cl] 27
  rw [size_alloc] at hM
  rw [size_alloc, size_alloc] at hG
  have hB := below_al (below_al (below_al (Below.refl w.heap.size w) (.cells #[.slice a n c, .slice a' n' c'] 26)) (.cells #[.int .i64 m] 2)) (.cells #[.slice al nl cl] 27)
  cases hs : isSol f g with
  | false =>
    rw [bouF_no hs]
    have HS := Lib.hid hs; clear hs
    go_enter Tryz.func25, Tryz.ntmps25
    have lA := hA.two
    go_wp2_with fail
    generalize ((w.alloc (.cells #[.slice a n c, .slice a' n' c'] 26)).alloc (.cells #[.int .i64 m] 2)).alloc (.cells #[.slice al nl cl] 27) = w0 at *
    refine (isSolution_any _ _ _ _ _ _ _ _ _ (h1.f.below hB) (h1.s.below hB) hm1 hm2).mono ?_
    rintro e w1 ⟨rfl, hb1⟩
    rw [HS.out]
    go_wp2
    go_ret2
    exact ⟨none, 0, 0, [], rfl, OwnT.nil _ _, below_th hB hb1⟩
  | true =>
    obtain ⟨hn1, hn12, sf, sg⟩ := isSol_sq hs
    have hl1 := h1.f.len
    have hl2 : n' = n := by rw [h1.s.len, hl1]; have := sg.len; omega
    subst hl2
    rw [← hl1] at hn1 hn12 sf sg
    have HSF := Lib.hid sf; have HSG := Lib.hid sg
    have HL := Lib.hid hl1
    have HS := Lib.hid hs
    clear sf sg hl1
    cases hp : rngB 1 12 m && rowOk n' m gs with
    | false =>
      have e : bouF f g m gs = ([], 2) := by
        cases h2 : rngB 1 12 m with
        | false => exact bouF_m hs h2
        | true => exact bouF_r hs h2 (by rw [← HL.out]; rw [h2] at hp; simpa using hp)
      rw [e]
      have HP := Lib.hid hp; clear hp hs e
      go_enter Tryz.func25, Tryz.ntmps25
      have lA := hA.two
      go_wp2_with fail
      generalize ((w.alloc (.cells #[.slice a n' c, .slice a' n' c'] 26)).alloc (.cells #[.int .i64 m] 2)).alloc (.cells #[.slice al nl cl] 27) = w0 at *
      refine (isSolution_any _ _ _ _ _ _ _ _ _ (h1.f.below hB) (h1.s.below hB) hm1 hm2).mono ?_
      rintro e w1 ⟨rfl, hb1⟩
      rw [HS.out]
      have lA1 := (hA.below hb1 hA.lt).two
      have lM1 := (hM.below hb1 hM.lt).one
      have lG1 := (hG.below hb1 hG.lt).one
      have hr1 := hr.below (below_th hB hb1)
      go_wp2_with fail
      refine (isShift_any n' m _ _ _ gs _ hr1 hnl).mono ?_
      rintro e w2 ⟨rfl, rfl⟩
      rw [HP.out]
      go_wp2
      go_ret2
      exact ⟨none, 0, 0, [], rfl, OwnT.nil _ _, below_th hB hb1⟩
    | true =>
      have hp2 := hp
      rw [Bool.and_eq_true] at hp2
      obtain ⟨hp2, hk⟩ := hp2
      rw [bouF_ok hs hp2 (by rw [← HL.out]; exact hk), ← HL.out]
      have hmm : 1 ≤ m ∧ m ≤ 12 := by simpa [rngB] using hp2
      obtain ⟨hq1, hq2⟩ := hmm
      have hln : nl = n' := by have h := (rowOk_get hk).1; have := hr.len; omega
      subst hln
      have HP := Lib.hid hp; have HK := Lib.hid hk; clear hp hs hk hp2
      go_enter Tryz.func25, Tryz.ntmps25
      have lA := hA.two
      go_wp2_with fail
      generalize ((w.alloc (.cells #[.slice a nl c, .slice a' nl c'] 26)).alloc (.cells #[.int .i64 m] 2)).alloc (.cells #[.slice al nl cl] 27) = w0 at *
      refine (isSolution_any _ _ _ _ _ _ _ _ _ (h1.f.below hB) (h1.s.below hB) hm1 hm2).mono ?_
      rintro e w1 ⟨rfl, hb1⟩
      rw [HS.out]
      have hA1 := hA.below hb1 hA.lt
      have hM1 := hM.below hb1 hM.lt
      have hG1 := hG.below hb1 hG.lt
      have lA1 := hA1.two
      have lM1 := hM1.one
      have lG1 := hG1.one
      have hB1 := below_th hB hb1
      clear hA hM hG lA hb1 hB
      go_wp2_with fail
      refine (isShift_any nl m _ _ _ gs _ (hr.below hB1) hnl).mono ?_
      rintro e w2 ⟨rfl, rfl⟩
      rw [HP.out]
      have T1 := h1.f.below hB1
      have T2 := h1.s.below hB1
      have T3 := hr.below hB1
      obtain ⟨bf, of, A, O, C, rfl, gf⟩ := T1.grid HSF.out hn1
      obtain ⟨bg, og, A', O', C', rfl, gg⟩ := T2.grid HSG.out hn1
      have hcl : ∀ x y, x < nl → y < nl → ∀ w2, Below w1.heap.size w1 w2 → Calls Tryz.prog 70 (#[.int .i64 x, .int .i64 y] ++ #[.pointer (some ⟨w.heap.size + 1 + 1, 0, none⟩), .pointer (some ⟨w.heap.size, 0, none⟩), .pointer (some ⟨w.heap.size + 1, 0, none⟩)]) w2 fun e w' => e = .returned (.int .i64 (bndE m f g gs x y)) ∧ Below w2.heap.size w2 w' := fun x y hx hy w2 hb2 =>
        (bound1_any m _ _ _ _ _ _ bf of bg og A O C A' O' C' nl c c' f g al cl gs x y w2 (hG1.below hb2 hG1.lt) (hA1.below hb2 hA1.lt) (hM1.below hb2 hM1.lt) (gf.below hb2) (gg.below hb2) HSF.out HSG.out (T3.below hb2) hq1 hq2 HK.out hx hy).mono fun e w' ⟨he, k, hw⟩ => ⟨he, by rw [hw]; exact below_drewN (Below.refl _ _) k⟩
      have HCL := Lib.hid hcl; clear hcl T1 T2 gf gg
      go_wp2_with fail
      refine (tableBy_any _ _ (bndE m f g gs) nl _ (by omega) ent_bound1 HCL.out).mono ?_
      rintro e w3 ⟨a3, c3, vs3, rfl, ho3, hb3⟩
      go_wp2
      go_ret2
      exact ⟨_, _, _, vs3, rfl, ho3.mono hB1.size, below_th hB1 hb3⟩
end Go.Proofs.YtpdgpgbgakinlaaGreat

namespace Go.Proofs.YtpdgpgbgakinlaaGreat
set_option maxRecDepth 100000
set_option linter.unusedVariables false
set_option linter.unusedSimpArgs false
open Go.RowKit
theorem less_all {n : Nat} {l : List Int} (h : l.all (rngB 0 ((n : Int) - 1)) = true) : Less n l := by
  intro i hi
  have := List.all_eq_true.1 h l[i] (List.getElem_mem hi)
  unfold rngB at this
  simp at this
  refine ⟨(l.getD i 0).toNat, ?_, ?_⟩ <;> rw [getD_eq_at hi] <;> omega
theorem areElements_any (n : Nat) (a : Option Addr) (m c : Nat) (l : List Int) (w : World) (h1 : Row w a m l) (hm : m ≤ 9223372036854775807) (hn : n ≤ 1000000) :
    Calls Tryz.prog 43 #[.int .i64 n, .slice a m c] w fun e w' => e = .returned (.bool (l.all (rngB 0 ((n : Int) - 1)))) ∧ w = w' := by
  have HA := Lib.hid (allWithin_any a m c l 0 ((n : Int) - 1) w h1 hm)
  go_enter Tryz.func43, Tryz.ntmps43
  go_wp2_with fail
  refine HA.out.mono ?_
  rintro e w' ⟨rfl, rfl⟩
  go_wp2
  go_ret
  exact ⟨rfl, rfl⟩
end Go.Proofs.YtpdgpgbgakinlaaGreat

namespace Go.Proofs.YtpdgpgbgakinlaaGreat
set_option maxRecDepth 100000
set_option linter.unusedVariables false
set_option linter.unusedSimpArgs false
open Go.RowKit
def wotF (f g : List (List Int)) (m : Int) (M : List (List Int)) (s : Int) (xs l : List Int) : Int × Int :=
  if isSol f g then (if isBr s xs then (if isMx f.length m M then (if (l.length : Int) = s then (if l.all (rngB 0 ((f.length : Int) - 1)) then (wtF f.length f g M m xs l, 0) else (0, 2)) else (0, 2)) else (0, 2)) else (0, 1)) else (0, 1)
set_option maxHeartbeats 4000000 in
theorem impl_Wot_l (a : Option Addr) (n c : Nat) (f : List (List Int)) (a' : Option Addr) (n' c' : Nat) (g : List (List Int)) (m : Int) (am : Option Addr) (nm cm : Nat) (M : List (List Int)) (s : Int) (ab : Option Addr) (nb cb : Nat) (xs : List Int) (al : Option Addr) (k cl : Nat) (l : List Int) (w : World) (h1 : Sol w a n f a' n' g) (hm : n ≤ 9223372036854775807 ∧ n' ≤ 9223372036854775807) (hi : I64 m) (h5 : Tbl w am nm M) (hnm : nm ≤ 9223372036854775807) (hs : I64 s) (hr : Row w ab nb xs) (hnb : nb ≤ 9223372036854775807) (hx : I64s xs) (hcap : nb ≤ cb ∧ cb ≤ 9223372036854775807) (hl : Row w al k l) (hkl : k ≤ 9223372036854775807) (hxl : I64s l) :
    Calls Tryz.prog 8 #[sAgg a n c a' n' c', .int .i64 m, .slice am nm cm, bAgg s ab nb cb, .slice al k cl] w (RetI w (wotF f g m M s xs l).1 (wotF f g m M s xs l).2) := by
  obtain ⟨hm1, hm2⟩ := hm
  have hfl := h1.f.len
  have hll := hl.len
  have hml := h5.len
  have hA := (Loc.new w rfl #[.slice a n c, .slice a' n' c'] 26).alloc (.cells #[.int .i64 s, .slice ab nb cb] 29)
  have hE := Loc.new (w.alloc (.cells #[.slice a n c, .slice a' n' c'] 26)) rfl #[.int .i64 s, .slice ab nb cb] 29
  rw [size_alloc] at hE
  have hB := below_al (below_al (Below.refl w.heap.size w) (.cells #[.slice a n c, .slice a' n' c'] 26)) (.cells #[.int .i64 s, .slice ab nb cb] 29)
  by_cases q0 : isSol f g = true
  rotate_left
  · replace q0 : isSol f g = false := by simpa using q0
    have hq : wotF f g m M s xs l = (0, 1) := by unfold wotF; rw [q0]; rfl
    rw [hq]
    have H0 := Lib.hid q0
    clear q0 hq hfl hll hml
    go_enter Tryz.func8, Tryz.ntmps8
    go_wp2_with fail
    generalize (w.alloc (.cells #[.slice a n c, .slice a' n' c'] 26)).alloc (.cells #[.int .i64 s, .slice ab nb cb] 29) = w0 at *
    have hB0 := hB
    have lA0 := hA.two
    have lE0 := hE.two
    refine (isSolution_any _ _ _ _ _ _ _ _ _ (h1.f.below hB0) (h1.s.below hB0) hm1 hm2).mono ?_
    rintro e w1 ⟨rfl, hb1⟩
    rw [H0.out]
    have hB1 := below_th hB0 hb1
    replace hA := hA.below hb1 hA.lt
    replace hE := hE.below hb1 hE.lt
    have lA1 := hA.two
    have lE1 := hE.two
    clear lA0 lE0
    go_wp2
    go_ret2
    exact ⟨rfl, hB1⟩
  have H0 := Lib.hid q0
  by_cases q1 : isBr s xs = true
  rotate_left
  · replace q1 : isBr s xs = false := by simpa using q1
    have hq : wotF f g m M s xs l = (0, 1) := by unfold wotF; rw [q0, q1]; rfl
    rw [hq]
    have H1 := Lib.hid q1
    clear q0 q1 hq hfl hll hml
    go_enter Tryz.func8, Tryz.ntmps8
    go_wp2_with fail
    generalize (w.alloc (.cells #[.slice a n c, .slice a' n' c'] 26)).alloc (.cells #[.int .i64 s, .slice ab nb cb] 29) = w0 at *
    have hB0 := hB
    have lA0 := hA.two
    have lE0 := hE.two
    refine (isSolution_any _ _ _ _ _ _ _ _ _ (h1.f.below hB0) (h1.s.below hB0) hm1 hm2).mono ?_
    rintro e w1 ⟨rfl, hb1⟩
    rw [H0.out]
    have hB1 := below_th hB0 hb1
    replace hA := hA.below hb1 hA.lt
    replace hE := hE.below hb1 hE.lt
    have lA1 := hA.two
    have lE1 := hE.two
    clear lA0 lE0
    go_wp2_with fail
    refine (isBraid_any _ _ _ _ xs _ (hr.below hB1) hnb).mono ?_
    rintro e w2 ⟨rfl, hb2⟩
    rw [H1.out]
    have hB2 := below_th hB1 hb2
    replace hA := hA.below hb2 hA.lt
    replace hE := hE.below hb2 hE.lt
    have lA2 := hA.two
    have lE2 := hE.two
    clear lA1 lE1
    go_wp2
    go_ret2
    exact ⟨rfl, hB2⟩
  have H1 := Lib.hid q1
  obtain ⟨hn1, hn12, sf, sg⟩ := isSol_sq q0
  have hcc := isSol_coll q0
  have hl2 : n' = n := by rw [h1.s.len, hfl]; have := sg.len; omega
  subst hl2
  have hs26 := (isBr_let q1).1
  obtain ⟨S, rfl⟩ : ∃ S : Nat, s = S := ⟨s.toNat, by omega⟩
  have hfl2 : f.length = n' := hfl.symm
  rw [hfl2] at hn1 hn12 sf sg hcc
  have HSF := Lib.hid sf; have HSG := Lib.hid sg; have HCC := Lib.hid hcc
  have hs2 : 2 ≤ S := by omega
  have hs6 : S ≤ 6 := by omega
  clear sf sg hcc
  by_cases q2 : isMx n' m M = true
  rotate_left
  · replace q2 : isMx n' m M = false := by simpa using q2
    have hq : wotF f g m M S xs l = (0, 2) := by unfold wotF; rw [q0, q1, hfl2, q2]; rfl
    rw [hq]
    have H2 := Lib.hid q2
    clear q0 q1 q2 hq hfl hll hml hfl2
    go_enter Tryz.func8, Tryz.ntmps8
    go_wp2_with fail
    generalize (w.alloc (.cells #[.slice a n' c, .slice a' n' c'] 26)).alloc (.cells #[.int .i64 S, .slice ab nb cb] 29) = w0 at *
    have hB0 := hB
    have lA0 := hA.two
    have lE0 := hE.two
    refine (isSolution_any _ _ _ _ _ _ _ _ _ (h1.f.below hB0) (h1.s.below hB0) hm1 hm2).mono ?_
    rintro e w1 ⟨rfl, hb1⟩
    rw [H0.out]
    have hB1 := below_th hB0 hb1
    replace hA := hA.below hb1 hA.lt
    replace hE := hE.below hb1 hE.lt
    have lA1 := hA.two
    have lE1 := hE.two
    clear lA0 lE0
    go_wp2_with fail
    refine (isBraid_any _ _ _ _ xs _ (hr.below hB1) hnb).mono ?_
    rintro e w2 ⟨rfl, hb2⟩
    rw [H1.out]
    have hB2 := below_th hB1 hb2
    replace hA := hA.below hb2 hA.lt
    replace hE := hE.below hb2 hE.lt
    have lA2 := hA.two
    have lE2 := hE.two
    clear lA1 lE1
    go_wp2_with fail
    refine (isMatrix_any _ _ _ _ _ M _ (h5.below hB2) hnm).mono ?_
    rintro e w3 ⟨rfl, hb3⟩
    rw [H2.out]
    have hB3 := below_th hB2 hb3
    replace hA := hA.below hb3 hA.lt
    replace hE := hE.below hb3 hE.lt
    have lA3 := hA.two
    have lE3 := hE.two
    clear lA2 lE2
    go_wp2
    go_ret2
    exact ⟨rfl, hB3⟩
  obtain ⟨hmm, hM⟩ := isMx_sq q2
  have HMM := Lib.hid hmm; have HM := Lib.hid hM
  have hlm : nm = n' := by rw [hml]; exact hM.1
  subst hlm
  clear hmm hM
  have H2 := Lib.hid q2
  by_cases q3 : k = S
  rotate_left
  · have b3 : ((k : Int) != (S : Int)) = true := by simp; omega
    have hq : wotF f g m M S xs l = (0, 2) := by unfold wotF; rw [q0, q1, hfl2, q2, ← hll]; simp; omega
    rw [hq]
    clear q0 q1 q2 q3 hq hfl hll hml hfl2
    go_enter Tryz.func8, Tryz.ntmps8
    go_wp2_with fail
    generalize (w.alloc (.cells #[.slice a nm c, .slice a' nm c'] 26)).alloc (.cells #[.int .i64 S, .slice ab nb cb] 29) = w0 at *
    have hB0 := hB
    have lA0 := hA.two
    have lE0 := hE.two
    refine (isSolution_any _ _ _ _ _ _ _ _ _ (h1.f.below hB0) (h1.s.below hB0) hm1 hm2).mono ?_
    rintro e w1 ⟨rfl, hb1⟩
    rw [H0.out]
    have hB1 := below_th hB0 hb1
    replace hA := hA.below hb1 hA.lt
    replace hE := hE.below hb1 hE.lt
    have lA1 := hA.two
    have lE1 := hE.two
    clear lA0 lE0
    go_wp2_with fail
    refine (isBraid_any _ _ _ _ xs _ (hr.below hB1) hnb).mono ?_
    rintro e w2 ⟨rfl, hb2⟩
    rw [H1.out]
    have hB2 := below_th hB1 hb2
    replace hA := hA.below hb2 hA.lt
    replace hE := hE.below hb2 hE.lt
    have lA2 := hA.two
    have lE2 := hE.two
    clear lA1 lE1
    go_wp2_with fail
    refine (isMatrix_any _ _ _ _ _ M _ (h5.below hB2) hnm).mono ?_
    rintro e w3 ⟨rfl, hb3⟩
    rw [H2.out]
    have hB3 := below_th hB2 hb3
    replace hA := hA.below hb3 hA.lt
    replace hE := hE.below hb3 hE.lt
    have lA3 := hA.two
    have lE3 := hE.two
    clear lA2 lE2
    go_wp2
    go_ret2
    exact ⟨rfl, hB3⟩
  subst q3
  have b3 : ((k : Int) != (k : Int)) = false := by simp
  cases q4 : l.all (rngB 0 ((nm : Int) - 1)) with
  | false =>
    have hq : wotF f g m M k xs l = (0, 2) := by unfold wotF; rw [q0, q1, hfl2, q2, ← hll, q4]; simp
    rw [hq]
    have H4 := Lib.hid q4
    clear q0 q1 q2 q4 hq hfl hll hml hfl2
    go_enter Tryz.func8, Tryz.ntmps8
    go_wp2_with fail
    generalize (w.alloc (.cells #[.slice a nm c, .slice a' nm c'] 26)).alloc (.cells #[.int .i64 k, .slice ab nb cb] 29) = w0 at *
    have hB0 := hB
    have lA0 := hA.two
    have lE0 := hE.two
    refine (isSolution_any _ _ _ _ _ _ _ _ _ (h1.f.below hB0) (h1.s.below hB0) hm1 hm2).mono ?_
    rintro e w1 ⟨rfl, hb1⟩
    rw [H0.out]
    have hB1 := below_th hB0 hb1
    replace hA := hA.below hb1 hA.lt
    replace hE := hE.below hb1 hE.lt
    have lA1 := hA.two
    have lE1 := hE.two
    clear lA0 lE0
    go_wp2_with fail
    refine (isBraid_any _ _ _ _ xs _ (hr.below hB1) hnb).mono ?_
    rintro e w2 ⟨rfl, hb2⟩
    rw [H1.out]
    have hB2 := below_th hB1 hb2
    replace hA := hA.below hb2 hA.lt
    replace hE := hE.below hb2 hE.lt
    have lA2 := hA.two
    have lE2 := hE.two
    clear lA1 lE1
    go_wp2_with fail
    refine (isMatrix_any _ _ _ _ _ M _ (h5.below hB2) hnm).mono ?_
    rintro e w3 ⟨rfl, hb3⟩
    rw [H2.out]
    have hB3 := below_th hB2 hb3
    replace hA := hA.below hb3 hA.lt
    replace hE := hE.below hb3 hE.lt
    have lA3 := hA.two
    have lE3 := hE.two
    clear lA2 lE2
    go_wp2_with fail
    refine (areElements_any _ _ _ _ l _ (hl.below hB3) hkl (by omega)).mono ?_
    rintro e w4 ⟨rfl, rfl⟩
    rw [H4.out]
    have hB4 := hB3
    have lA4 := lA3
    have lE4 := lE3
    clear lA3 lE3
    go_wp2
    go_ret2
    exact ⟨rfl, hB4⟩
  | true =>
    have hq : wotF f g m M k xs l = (wtF nm f g M m xs l, 0) := by unfold wotF; rw [q0, q1, hfl2, q2, ← hll, q4]; simp
    rw [hq]
    have H4 := Lib.hid q4
    have HLE : Hid (Less nm l) := Lib.hid (less_all q4)
    have HWD : Hid (IsWd k xs) := Lib.hid (isBr_wd q1)
    clear q0 q1 q2 q4 hq hfl hll hml hfl2
    go_enter Tryz.func8, Tryz.ntmps8
    go_wp2_with fail
    generalize (w.alloc (.cells #[.slice a nm c, .slice a' nm c'] 26)).alloc (.cells #[.int .i64 k, .slice ab nb cb] 29) = w0 at *
    have hB0 := hB
    have lA0 := hA.two
    have lE0 := hE.two
    refine (isSolution_any _ _ _ _ _ _ _ _ _ (h1.f.below hB0) (h1.s.below hB0) hm1 hm2).mono ?_
    rintro e w1 ⟨rfl, hb1⟩
    rw [H0.out]
    have hB1 := below_th hB0 hb1
    replace hA := hA.below hb1 hA.lt
    replace hE := hE.below hb1 hE.lt
    have lA1 := hA.two
    have lE1 := hE.two
    clear lA0 lE0
    go_wp2_with fail
    refine (isBraid_any _ _ _ _ xs _ (hr.below hB1) hnb).mono ?_
    rintro e w2 ⟨rfl, hb2⟩
    rw [H1.out]
    have hB2 := below_th hB1 hb2
    replace hA := hA.below hb2 hA.lt
    replace hE := hE.below hb2 hE.lt
    have lA2 := hA.two
    have lE2 := hE.two
    clear lA1 lE1
    go_wp2_with fail
    refine (isMatrix_any _ _ _ _ _ M _ (h5.below hB2) hnm).mono ?_
    rintro e w3 ⟨rfl, hb3⟩
    rw [H2.out]
    have hB3 := below_th hB2 hb3
    replace hA := hA.below hb3 hA.lt
    replace hE := hE.below hb3 hE.lt
    have lA3 := hA.two
    have lE3 := hE.two
    clear lA2 lE2
    go_wp2_with fail
    refine (areElements_any _ _ _ _ l _ (hl.below hB3) hkl (by omega)).mono ?_
    rintro e w4 ⟨rfl, rfl⟩
    rw [H4.out]
    have hB4 := hB3
    have lA4 := lA3
    have lE4 := lE3
    clear lA3 lE3
    have hq0 := hB4.size
    go_wp2
    go_region_held3 (fun w' => (w'.cell? ⟨w.heap.size, 0, none⟩ = some (.slice a nm c) ∧ w'.cell? ⟨w.heap.size, 1, none⟩ = some (.slice a' nm c')) ∧ w'.cell? ⟨w.heap.size + 1, 1, none⟩ = some (.slice ab nb cb))
      (first | exact ⟨(hA.below hy2 hA.lt).held2, (hE.below hy2 hE.lt).held2.2⟩ | exact ⟨(hA.below hy1 hA.lt).held2, (hE.below hy1 hE.lt).held2.2⟩ | exact ⟨hA.held2, hE.held2.2⟩)
      (first
        | (go_at_call 45; refine (newAction_any _ _ _ _ _ f g _ ((h1.f.below hB4).drewN 1) ((h1.s.below hB4).drewN 1) H0.out hn12).mono ?_; rintro e v1 ⟨b, d, vs, b', d', vs', rfl, ho, hv1⟩; have hy1 := below_undrew hv1; have hz1 := below_th hB4 hy1)
        | (go_at_call 44; refine (weightOf_any _ _ _ _ _ _ _ _ _ f g _ _ _ M _ _ _ _ xs _ _ l _ (h1.f.below hz1) (h1.s.below hz1) ho.f.tbl ho.s.tbl hn1 HSF.out HSG.out HCC.out HMM.out HM.out (h5.below hz1) (hr.below hz1) HWD.out hs2 hs6 (hl.below hz1) HLE.out).mono ?_; rintro e v2 ⟨rfl, hv2⟩; have hy2 := below_th hy1 hv2; have hz2 := below_th hz1 hv2))
    all_goals
      go_wp2
      go_ret2
      exact ⟨rfl, hz2⟩
end Go.Proofs.YtpdgpgbgakinlaaGreat

namespace Go.Proofs.YtpdgpgbgakinlaaGreat
set_option maxRecDepth 100000
set_option linter.unusedVariables false
set_option linter.unusedSimpArgs false
/-! ### tables as functions -/
structure Ybe (n : Nat) (f g : List (List Int)) : Prop where
  sf : Sq n f
  sg : Sq n g
  pos : 1 ≤ n
  coll : collOk n f g = true
  one : ∀ x y z, x < n → y < n → z < n → tv f (tv f x y) (tv f (tv g x y) z) = tv f x (tv f y z)
  two : ∀ x y z, x < n → y < n → z < n → tv g (tv f x y) (tv f (tv g x y) z) = tv f (tv g x (tv f y z)) (tv g y z)
  three : ∀ x y z, x < n → y < n → z < n → tv g (tv g x y) z = tv g (tv g x (tv f y z)) (tv g y z)
  row : ∀ x, x < n → IsP n (f.getD x [])
theorem eqOk_at {n : Nat} {f g : List (List Int)} (h : eqOk n f g = true) {x y z : Nat} (hx : x < n) (hy : y < n) (hz : z < n) :
    tv f (tv f x y) (tv f (tv g x y) z) = tv f x (tv f y z) ∧ tv g (tv f x y) (tv f (tv g x y) z) = tv f (tv g x (tv f y z)) (tv g y z) ∧ tv g (tv g x y) z = tv g (tv g x (tv f y z)) (tv g y z) := by
  have := allN_get (allN_get (allN_get h hx) hy) hz
  unfold eqAt at this
  simp only [Bool.and_eq_true, decide_eq_true_eq] at this
  exact ⟨this.1.1, this.1.2, this.2⟩
section
variable {n : Nat} {f g : List (List Int)}
def bkN (f : List (List Int)) (x y : Nat) : Nat := ((backF (f.getD x [])).getD y 0).toNat
theorem Ybe.bk (h : Ybe n f g) {x y : Nat} (hx : x < n) (hy : y < n) : bkN f x y < n ∧ tv f x (bkN f x y) = y := by
  obtain ⟨q, e1, hq, e2⟩ := backF_at (h.row x hx) y hy
  unfold bkN tv
  rw [e1, Int.toNat_natCast, e2, Int.toNat_natCast]
  exact ⟨hq, rfl⟩
theorem Ybe.inj (h : Ybe n f g) {x y z : Nat} (hx : x < n) (hy : y < n) (hz : z < n) (e : tv f x y = tv f x z) : y = z := by
  obtain ⟨F, G, hl, h1, h2⟩ := h.row x hx
  unfold tv at e
  rw [h2 y hy, h2 z hz, Int.toNat_natCast, Int.toNat_natCast] at e
  rw [← (h1 y hy).2.2.2, ← (h1 z hz).2.2.2, e]
/-! ### the map of tuples -/
end
end Go.Proofs.YtpdgpgbgakinlaaGreat

namespace Go.Proofs.YtpdgpgbgakinlaaGreat
set_option maxRecDepth 100000
set_option linter.unusedVariables false
set_option linter.unusedSimpArgs false
open Go.RowKit
def wtfP (n : Nat) (f g M : List (List Int)) (m : Int) : List Int × Int := if wtFlt n f g M m = [] then ([], 4) else (wtFlt n f g M m, 0)
theorem wtfP_nil {n : Nat} {f g M : List (List Int)} {m : Int} (h : wtFlt n f g M m = []) : wtfP n f g M m = ([], 4) := if_pos h
theorem wtfP_some {n : Nat} {f g M : List (List Int)} {m : Int} (h : ¬ wtFlt n f g M m = []) : wtfP n f g M m = (wtFlt n f g M m, 0) := if_neg h
def wtfF (f g : List (List Int)) (m : Int) (M : List (List Int)) : List Int × Int := if isSol f g then (if isMx f.length m M then wtfP f.length f g M m else ([], 2)) else ([], 1)
theorem ck2_zero {f g : List (List Int)} {n : Nat} {m : Int} {M : List (List Int)} {r : Int} (hr : (if isSol f g then (if isMx n m M then 0 else 2) else 1) = r) (hz : r = 0) : isSol f g = true ∧ isMx n m M = true := by
  by_cases q1 : isSol f g = true
  · rw [if_pos q1] at hr
    by_cases q2 : isMx n m M = true
    · exact ⟨q1, q2⟩
    · rw [if_neg q2] at hr; omega
  · rw [if_neg q1] at hr; omega
theorem wtfF_no {f g : List (List Int)} {n : Nat} {m : Int} {M : List (List Int)} {r : Int} (hn : n = f.length) (hr : (if isSol f g then (if isMx n m M then 0 else 2) else 1) = r) (hz : ¬ r = 0) : wtfF f g m M = ([], r) := by
  unfold wtfF
  rw [← hn, ← hr]
  by_cases q1 : isSol f g = true
  · rw [if_pos q1, if_pos q1]
    by_cases q2 : isMx n m M = true
    · rw [if_pos q1, if_pos q2] at hr; exact absurd hr.symm hz
    · rw [if_neg q2, if_neg q2]
  · rw [if_neg q1, if_neg q1]
theorem wtfF_yes {f g : List (List Int)} {n : Nat} {m : Int} {M : List (List Int)} (hn : n = f.length) (q1 : isSol f g = true) (q2 : isMx n m M = true) : wtfF f g m M = wtfP n f g M m := by
  unfold wtfF; rw [if_pos q1, ← hn, if_pos q2]
set_option maxHeartbeats 1000000 in
theorem impl_Wtf_l (a : Option Addr) (n c : Nat) (f : List (List Int)) (a' : Option Addr) (n' c' : Nat) (g : List (List Int)) (m : Int) (am : Option Addr) (nm cm : Nat) (M : List (List Int)) (w : World) (h1 : Sol w a n f a' n' g) (hm : n ≤ 9223372036854775807 ∧ n' ≤ 9223372036854775807) (hi : I64 m) (h5 : Tbl w am nm M) (hnm : nm ≤ 9223372036854775807) :
    Calls Tryz.prog 23 #[sAgg a n c a' n' c', .int .i64 m, .slice am nm cm] w (RetR w (wtfF f g m M).1 (wtfF f g m M).2) := by
  obtain ⟨hm1, hm2⟩ := hm
  have hA := Loc.new w rfl #[.slice a n c, .slice a' n' c'] 26
  have hfl := h1.f.len
  obtain ⟨r, hr⟩ : ∃ r : Int, (if isSol f g then (if isMx n m M then 0 else 2) else 1) = r := ⟨_, rfl⟩
  have HCK := Lib.hid (fun w (h1 : Tbl w a n f) (h2 : Tbl w a' n' g) (h5 : Tbl w am nm M) => checkWeight_any a n c a' n' c' f g m am nm cm M w h1 h2 hm1 hm2 h5 hnm r hr)
  by_cases hz : r = 0
  · obtain ⟨q1, q2⟩ := ck2_zero hr hz
    subst hz
    rw [wtfF_yes hfl q1 q2]
    obtain ⟨hn1, hn12, sf, sg⟩ := isSol_sq q1
    rw [← hfl] at hn12
    obtain ⟨hmm, hM⟩ := isMx_sq q2
    have hl2 : n' = n := by rw [h1.s.len]; have := sg.len; omega
    have hl3 : nm = n := by rw [h5.len]; exact hM.1
    subst hl2 hl3
    have H1 := Lib.hid q1; have HM := Lib.hid hM; have HMM := Lib.hid hmm
    clear hr q1 q2 sf sg hM hmm hfl
    by_cases hL0 : wtFlt nm f g M m = []
    · rw [wtfP_nil hL0]
      have HL0 := Lib.hid hL0
      clear hL0
      go_enter Tryz.func23, Tryz.ntmps23
      go_wp2_with fail
      refine (HCK.out _ (h1.f.alloc _) (h1.s.alloc _) (h5.alloc _)).mono ?_
      rintro e w1 ⟨rfl, hb1⟩
      have lA := (hA.below hb1 (by simp)).two
      have hB1 := below_alth (Below.refl _ _) hb1
      go_wp2_with fail
      refine (weightFault_any _ _ _ _ _ f g m _ _ M _ ((h1.f.alloc _).below hb1) ((h1.s.alloc _).below hb1) H1.out HMM.out HM.out ((h5.alloc _).below hb1)).mono ?_
      have nn := fun (w : World) (a : Option Addr) (n c : Nat) => Lib.run_eql_slice_nil (P := Tryz.prog) w 27 2 a n c 0 0 und_ints
      rintro e w2 ⟨he, hb2⟩
      rcases he with ⟨_, rfl⟩ | ⟨hL, _⟩
      · go_wp2
        go_ret2
        exact ⟨none, 0, 0, rfl, Own.nil _ _, below_th hB1 hb2⟩
      · exact absurd HL0.out hL
    · rw [wtfP_some hL0]
      have HL0 := Lib.hid hL0
      clear hL0
      go_enter Tryz.func23, Tryz.ntmps23
      go_wp2_with fail
      refine (HCK.out _ (h1.f.alloc _) (h1.s.alloc _) (h5.alloc _)).mono ?_
      rintro e w1 ⟨rfl, hb1⟩
      have lA := (hA.below hb1 (by simp)).two
      have hB1 := below_alth (Below.refl _ _) hb1
      go_wp2_with fail
      refine (weightFault_any _ _ _ _ _ f g m _ _ M _ ((h1.f.alloc _).below hb1) ((h1.s.alloc _).below hb1) H1.out HMM.out HM.out ((h5.alloc _).below hb1)).mono ?_
      have nn := fun (w : World) (a : Option Addr) (n c : Nat) => Lib.run_eql_slice_nil (P := Tryz.prog) w 27 2 a n c 0 0 und_ints
      rintro e w2 ⟨he, hb2⟩
      rcases he with ⟨hL, _⟩ | ⟨_, b, k, rfl, hof⟩
      · exact absurd hL HL0.out
      · have HO := Lib.hid (hof.mono hB1.size)
        clear hof
        go_wp2
        go_ret2
        exact ⟨_, _, _, rfl, HO.out, below_th hB1 hb2⟩
  · rw [wtfF_no hfl hr hz]
    have hb : (r != 0) = true := by simpa using hz
    clear hr hz hfl
    go_enter Tryz.func23, Tryz.ntmps23
    go_wp2_with fail
    (with_reducible refine (HCK.out _ (h1.f.alloc _) (h1.s.alloc _) (h5.alloc _)).mono ?_)
    rintro e w1 ⟨rfl, hb1⟩
    go_wp2
    go_ret2
    exact ⟨none, 0, 0, rfl, Own.nil _ _, below_alth (Below.refl _ _) hb1⟩
set_option maxHeartbeats 1000000 in
theorem spec_Wtf_l (a : Option Addr) (n c : Nat) (f : List (List Int)) (a' : Option Addr) (n' c' : Nat) (g : List (List Int)) (m : Int) (am : Option Addr) (nm cm : Nat) (M : List (List Int)) (w : World) (h1 : Sol w a n f a' n' g) (hm : n ≤ 9223372036854775807 ∧ n' ≤ 9223372036854775807) (hi : I64 m) (h5 : Tbl w am nm M) (hnm : nm ≤ 9223372036854775807) :
    Calls Tryz.prog 24 #[sAgg a n c a' n' c', .int .i64 m, .slice am nm cm] w (RetR w (wtfF f g m M).1 (wtfF f g m M).2) := by
  obtain ⟨hm1, hm2⟩ := hm
  have hA := Loc.new w rfl #[.slice a n c, .slice a' n' c'] 26
  have hfl := h1.f.len
  obtain ⟨r, hr⟩ : ∃ r : Int, (if isSol f g then (if isMx n m M then 0 else 2) else 1) = r := ⟨_, rfl⟩
  have HCK := Lib.hid (fun w (h1 : Tbl w a n f) (h2 : Tbl w a' n' g) (h5 : Tbl w am nm M) => l18Code_any a n c a' n' c' f g m am nm cm M w h1 h2 hm1 hm2 h5 hnm r hr)
  by_cases hz : r = 0
  · obtain ⟨q1, q2⟩ := ck2_zero hr hz
    subst hz
    rw [wtfF_yes hfl q1 q2]
    obtain ⟨hn1, hn12, sf, sg⟩ := isSol_sq q1
    rw [← hfl] at hn12
    obtain ⟨hmm, hM⟩ := isMx_sq q2
    have hl2 : n' = n := by rw [h1.s.len]; have := sg.len; omega
    have hl3 : nm = n := by rw [h5.len]; exact hM.1
    subst hl2 hl3
    have H1 := Lib.hid q1; have HM := Lib.hid hM; have HMM := Lib.hid hmm
    clear hr q1 q2 sf sg hM hmm hfl
    by_cases hL0 : wtFlt nm f g M m = []
    · rw [wtfP_nil hL0]
      have HL0 := Lib.hid hL0
      clear hL0
      go_enter Tryz.func24, Tryz.ntmps24
      go_wp2_with fail
      refine (HCK.out _ (h1.f.alloc _) (h1.s.alloc _) (h5.alloc _)).mono ?_
      rintro e w1 ⟨rfl, hb1⟩
      have lA := (hA.below hb1 (by simp)).two
      have hB1 := below_alth (Below.refl _ _) hb1
      go_wp2_with fail
      refine (l18Fault_any _ _ _ _ _ f g m _ _ M _ ((h1.f.alloc _).below hb1) ((h1.s.alloc _).below hb1) H1.out HMM.out HM.out ((h5.alloc _).below hb1)).mono ?_
      rintro e w2 ⟨af, kf, cf, rfl, hof, hb2⟩
      have hkl := hof.len
      rw [HL0.out] at hkl
      obtain rfl : kf = 0 := hkl
      clear hof
      go_wp2
      go_ret2
      exact ⟨none, 0, 0, rfl, Own.nil _ _, below_th hB1 hb2⟩
    · rw [wtfP_some hL0]
      have HL0 := Lib.hid hL0
      clear hL0
      go_enter Tryz.func24, Tryz.ntmps24
      go_wp2_with fail
      refine (HCK.out _ (h1.f.alloc _) (h1.s.alloc _) (h5.alloc _)).mono ?_
      rintro e w1 ⟨rfl, hb1⟩
      have lA := (hA.below hb1 (by simp)).two
      have hB1 := below_alth (Below.refl _ _) hb1
      go_wp2_with fail
      refine (l18Fault_any _ _ _ _ _ f g m _ _ M _ ((h1.f.alloc _).below hb1) ((h1.s.alloc _).below hb1) H1.out HMM.out HM.out ((h5.alloc _).below hb1)).mono ?_
      rintro e w2 ⟨af, kf, cf, rfl, hof, hb2⟩
      have hkl := hof.len
      have hk0 : ¬ kf = 0 := fun h => HL0.out (List.eq_nil_of_length_eq_zero (by omega))
      have hb0 : ((kf : Int) == 0) = false := by simp; omega
      have HO := Lib.hid (hof.mono hB1.size)
      clear hkl hof hk0
      go_wp2
      go_ret2
      exact ⟨_, _, _, rfl, HO.out, below_th hB1 hb2⟩
  · rw [wtfF_no hfl hr hz]
    have hb : (r != 0) = true := by simpa using hz
    clear hr hz hfl
    go_enter Tryz.func24, Tryz.ntmps24
    go_wp2_with fail
    (with_reducible refine (HCK.out _ (h1.f.alloc _) (h1.s.alloc _) (h5.alloc _)).mono ?_)
    rintro e w1 ⟨rfl, hb1⟩
    go_wp2
    go_ret2
    exact ⟨none, 0, 0, rfl, Own.nil _ _, below_alth (Below.refl _ _) hb1⟩
end Go.Proofs.YtpdgpgbgakinlaaGreat

namespace Go.Proofs.YtpdgpgbgakinlaaGreat
set_option maxRecDepth 100000
set_option linter.unusedVariables false
set_option linter.unusedSimpArgs false
open Go.RowKit
set_option maxHeartbeats 4000000 in
theorem RackSolution_sk (n : Nat) (a : Option Addr) (c : Nat) (t : List (List Int)) (w : World) (h1 : Tbl w a n t) (h : isRk t = true) :
    Calls Tryz.prog 31 #[rAgg a n c] w fun e w' => ∃ a1 c1 vs a1' c1' vs', e = .returned (.tuple #[sAgg a1 n c1 a1' n c1', .int .i64 0]) ∧ OwnS w' w.heap.size a1 n c1 vs t a1' n c1' vs' (cstL n) ∧ Below w.heap.size w w' := by
  obtain ⟨hn1, hn, hs, _⟩ := isSol_sq (rk_isSol h)
  rw [← h1.len] at hn1 hn hs
  have HS := Lib.hid hs; have HK := Lib.hid h
  clear hs h
  have hA := (Loc.new w rfl #[.slice a n c] 45).alloc (.cells #[.slice none 0 0, .slice none 0 0] 26)
  have hR := Loc.new (w.alloc (.cells #[.slice a n c] 45)) rfl #[.slice none 0 0, .slice none 0 0] 26
  rw [size_alloc] at hR
  have hB := below_al (below_al (Below.refl w.heap.size w) (.cells #[.slice a n c] 45)) (.cells #[.slice none 0 0, .slice none 0 0] 26)
  have lA := hA.one
  generalize hw0 : (w.alloc (.cells #[.slice a n c] 45)).alloc (.cells #[.slice none 0 0, .slice none 0 0] 26) = w0 at *
  have hz0 : w.heap.size + 2 = w0.heap.size := by rw [← hw0]; simp
  go_enter Tryz.func31, Tryz.ntmps31
  go_wp2_with fail
  try rw [hw0]
  refine (isRack_any a n c t _ (h1.below hB) (by omega)).mono ?_
  rintro e w1 ⟨rfl, hb1⟩
  rw [HK.out]
  have hz1 := hb1.size
  have hB1 := below_th hB hb1
  have hA1 := hA.below hb1 hA.lt
  have hR1 := hR.below hb1 hR.lt
  have lA1 := hA1.one
  go_wp2_with fail
  refine (rackSolution_any a n c t _ (h1.below hB1) HS.out hn1 hn).mono ?_
  rintro e w7 ⟨a1, c1, vs, a1', c1', vs', rfl, ho, hb7⟩
  have hB7 := below_th hB1 hb7
  have hR7 := hR1.below hb7 (by omega)
  have lO := hR7.two
  go_wp2
  refine bodyPost_ret (v := .tuple #[sAgg a1 n c1 a1' n c1', .int .i64 0]) (by simp [results, Tryz.results31, go_sem, lO]) rfl ⟨a1, c1, vs, a1', c1', vs', rfl, ⟨?_, ?_, ho.ap⟩, ?_⟩
  · exact ((ho.f.setlo (by show w.heap.size + 1 < w1.heap.size; omega) _).setlo (by show w.heap.size + 1 < w1.heap.size; omega) _).mono (by omega)
  · exact ((ho.s.setlo (by show w.heap.size + 1 < w1.heap.size; omega) _).setlo (by show w.heap.size + 1 < w1.heap.size; omega) _).mono (by omega)
  · exact below_setne (below_setne hB7 (by show w.heap.size ≤ w.heap.size + 1; omega) _) (by show w.heap.size ≤ w.heap.size + 1; omega) _
end Go.Proofs.YtpdgpgbgakinlaaGreat
