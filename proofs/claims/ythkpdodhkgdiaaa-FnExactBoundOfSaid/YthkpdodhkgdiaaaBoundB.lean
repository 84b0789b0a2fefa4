/-
  BoundOf: what the program's and the reference's compute.
  No condition but bounds.
-/
import Derived.Test.YthkpdodhkgdiaaaBound
import Derived.Test.YthkpdodhkgdiaaaUS
import Derived.Test.YthkpdodhkgdiaaaSolP
import Derived.Test.YthkpdodhkgdiaaaOpen
namespace Go.Proofs.Ythkpdodhkgdiaaa
set_option maxRecDepth 100000
set_option linter.unusedVariables false
set_option linter.unusedSimpArgs false
open Go.RowKit

def bouF (f g : List (List Int)) (m : Int) (gs : List Int) : List (List Int) × Int :=
  if isSol f g then (if rngB 1 12 m then (if rowOk f.length m gs then (bndL f.length m f g gs, 0) else ([], 2)) else ([], 2)) else ([], 1)
theorem bouF_no {f g : List (List Int)} {m : Int} {gs : List Int} (h : isSol f g = false) : bouF f g m gs = ([], 1) := by unfold bouF; rw [h]; rfl
theorem bouF_m {f g : List (List Int)} {m : Int} {gs : List Int} (h : isSol f g = true) (h2 : rngB 1 12 m = false) : bouF f g m gs = ([], 2) := by unfold bouF; rw [h, h2]; rfl
theorem bouF_r {f g : List (List Int)} {m : Int} {gs : List Int} (h : isSol f g = true) (h2 : rngB 1 12 m = true) (h3 : rowOk f.length m gs = false) : bouF f g m gs = ([], 2) := by unfold bouF; rw [h, h2, h3]; rfl
theorem bouF_ok {f g : List (List Int)} {m : Int} {gs : List Int} (h : isSol f g = true) (h2 : rngB 1 12 m = true) (h3 : rowOk f.length m gs = true) : bouF f g m gs = (bndL f.length m f g gs, 0) := by unfold bouF; rw [h, h2, h3]; rfl
theorem tot_tabF (n : Nat) (v : Nat → Nat → Int) : tot (tabF n v) = n * n := by
  have : (tabF n v).map List.length = List.replicate n n := by
    unfold tabF
    rw [List.map_map]
    apply List.ext_getElem
    · simp
    · intro i h1 h2; simp
  unfold tot
  rw [this]; simp
theorem Bou_len (f g : List (List Int)) (m : Int) (gs : List Int) : tot (bouF f g m gs).1 ≤ 1000000 := by
  unfold bouF
  by_cases h : isSol f g = true
  · obtain ⟨h1, h2, _, _⟩ := isSol_sq h
    rw [if_pos h]
    by_cases h3 : rngB 1 12 m = true
    · rw [if_pos h3]
      by_cases h4 : rowOk f.length m gs = true
      · rw [if_pos h4]
        show tot (tabF _ _) ≤ _
        rw [tot_tabF]
        have := Nat.mul_le_mul h2 h2
        omega
      · rw [if_neg h4]; simp [tot]
    · rw [if_neg h3]; simp [tot]
  · rw [if_neg h]; simp [tot]

set_option maxHeartbeats 1000000 in
theorem spec_Bou_l (a : Option Addr) (n c : Nat) (f : List (List Int)) (a' : Option Addr) (n' c' : Nat) (g : List (List Int)) (m : Int) (al : Option Addr) (nl cl : Nat) (gs : List Int) (w : World) (h1 : Sol w a n f a' n' g) (hm : n ≤ 9223372036854775807 ∧ n' ≤ 9223372036854775807) (hi : I64 m) (hr : Row w al nl gs) (hnl : nl ≤ 9223372036854775807) (hx : I64s gs) :
    Calls Try.prog 37 #[sAgg a n c a' n' c', .int .i64 m, .slice al nl cl] w (RetT w (bouF f g m gs).1 (bouF f g m gs).2) := by
  obtain ⟨hm1, hm2⟩ := hm
  have hA := Loc.new w rfl #[.slice a n c, .slice a' n' c'] 35
  have lA := hA.two
  cases hs : isSol f g with
  | false =>
    rw [bouF_no hs]
    have HS := Lib.hid hs; clear hs
    go_enter Try.func37, Try.ntmps37
    go_wp2_with fail
    refine (l02Is_any _ _ _ _ _ _ _ _ _ (h1.f.alloc _) (h1.s.alloc _) hm1 hm2).mono ?_
    rintro e w1 ⟨rfl, hb1⟩
    rw [HS.out]
    go_wp2
    go_ret2
    exact ⟨none, 0, 0, [], rfl, OwnT.nil _ _, below_alth (Below.refl _ _) hb1⟩
  | true =>
    obtain ⟨hn1, hn12, sf, sg⟩ := isSol_sq hs
    have hl1 := h1.f.len
    have hl2 : n' = n := by rw [h1.s.len, hl1]; have := sg.len; omega
    subst hl2
    rw [← hl1] at hn1 hn12 sf sg
    have HSF := Lib.hid sf; have HSG := Lib.hid sg
    have HL := Lib.hid hl1
    have HS := Lib.hid hs
    clear sf sg hl1
    cases hp : rngB 1 12 m with
    | false =>
      rw [bouF_m hs hp]
      have HC := Lib.hid (fun w => l01In_b m 1 12 false hp w); clear hp hs
      go_enter Try.func37, Try.ntmps37
      go_wp2_with fail
      refine (l02Is_any _ _ _ _ _ _ _ _ _ (h1.f.alloc _) (h1.s.alloc _) hm1 hm2).mono ?_
      rintro e w1 ⟨rfl, hb1⟩
      rw [HS.out]
      go_wp2_with fail
      refine (HC.out _).mono ?_
      rintro e w2 ⟨rfl, rfl⟩
      go_wp2
      go_ret2
      exact ⟨none, 0, 0, [], rfl, OwnT.nil _ _, below_alth (Below.refl _ _) hb1⟩
    | true =>
      have HC := Lib.hid (fun w => l01In_b m 1 12 true hp w)
      have hmm : 1 ≤ m ∧ m ≤ 12 := by simpa [rngB] using hp
      obtain ⟨hq1, hq2⟩ := hmm
      cases hk : rowOk n' m gs with
      | false =>
        rw [bouF_r hs hp (by rw [← HL.out]; exact hk)]
        have HK := Lib.hid hk; clear hk hp hs
        go_enter Try.func37, Try.ntmps37
        go_wp2_with fail
        refine (l02Is_any _ _ _ _ _ _ _ _ _ (h1.f.alloc _) (h1.s.alloc _) hm1 hm2).mono ?_
        rintro e w1 ⟨rfl, hb1⟩
        rw [HS.out]
        have lA1 := (hA.below hb1 (by simp)).two
        have hr1 := (hr.alloc _).below hb1
        go_wp2_with fail
        refine (HC.out _).mono ?_
        rintro e w2 ⟨rfl, rfl⟩
        go_wp2_with fail
        refine (l14Numbers_any n' m _ _ _ gs _ hr1 hnl hq1 hq2).mono ?_
        rintro e w2 ⟨rfl, rfl⟩
        rw [HK.out]
        go_wp2
        go_ret2
        exact ⟨none, 0, 0, [], rfl, OwnT.nil _ _, below_alth (Below.refl _ _) hb1⟩
      | true =>
        rw [bouF_ok hs hp (by rw [← HL.out]; exact hk), ← HL.out]
        have hln : nl = n' := by have h := (rowOk_get hk).1; have := hr.len; omega
        subst hln
        have HK := Lib.hid hk; clear hk hp hs
        go_enter Try.func37, Try.ntmps37
        go_wp2_with fail
        refine (l02Is_any _ _ _ _ _ _ _ _ _ (h1.f.alloc _) (h1.s.alloc _) hm1 hm2).mono ?_
        rintro e w1 ⟨rfl, hb1⟩
        rw [HS.out]
        have lA1 := (hA.below hb1 (by simp)).two
        have hr1 := (hr.alloc _).below hb1
        have hf1 := (h1.f.alloc _).below hb1
        have hg1 := (h1.s.alloc _).below hb1
        have hB1 := below_alth (Below.refl _ _) hb1
        clear hb1 lA hA
        go_wp2_with fail
        refine (HC.out _).mono ?_
        rintro e w2 ⟨rfl, rfl⟩
        go_wp2_with fail
        refine (l14Numbers_any nl m _ _ _ gs _ hr1 hnl hq1 hq2).mono ?_
        rintro e w2 ⟨rfl, rfl⟩
        rw [HK.out]
        go_wp2_with fail
        refine (l18Bound_any m _ nl _ _ _ f g _ _ gs _ hf1 hg1 hn1 hn12 HSF.out HSG.out hr1 hq1 hq2 HK.out).mono ?_
        rintro e w3 ⟨a3, c3, vs3, rfl, ho3, hb3⟩
        go_wp2
        go_ret2
        exact ⟨_, _, _, vs3, rfl, ho3.mono hB1.size, below_th hB1 hb3⟩

set_option maxHeartbeats 2000000 in
theorem impl_Bou_l (a : Option Addr) (n c : Nat) (f : List (List Int)) (a' : Option Addr) (n' c' : Nat) (g : List (List Int)) (m : Int) (al : Option Addr) (nl cl : Nat) (gs : List Int) (w : World) (h1 : Sol w a n f a' n' g) (hm : n ≤ 9223372036854775807 ∧ n' ≤ 9223372036854775807) (hi : I64 m) (hr : Row w al nl gs) (hnl : nl ≤ 9223372036854775807) (hx : I64s gs) :
    Calls Try.prog 40 #[sAgg a n c a' n' c', .int .i64 m, .slice al nl cl] w (RetT w (bouF f g m gs).1 (bouF f g m gs).2) := by
  obtain ⟨hm1, hm2⟩ := hm
  have hA := ((Loc.new w rfl #[.slice a n c, .slice a' n' c'] 35).alloc (.cells #[.int .i64 m] 2)).alloc (.cells #[.slice al nl cl] 22)
  have hM := (Loc.new (w.alloc (.cells #[.slice a n c, .slice a' n' c'] 35)) rfl #[.int .i64 m] 2).alloc (.cells #[.slice al nl cl] 22)
  have hG := Loc.new ((w.alloc (.cells #[.slice a n c, .slice a' n' c'] 35)).alloc (.cells #[.int .i64 m] 2)) rfl #[.slice al nl cl] 22
  rw [size_alloc] at hM
  rw [size_alloc, size_alloc] at hG
  have hB := below_al (below_al (below_al (Below.refl w.heap.size w) (.cells #[.slice a n c, .slice a' n' c'] 35)) (.cells #[.int .i64 m] 2)) (.cells #[.slice al nl cl] 22)
  cases hs : isSol f g with
  | false =>
    rw [bouF_no hs]
    have HS := Lib.hid hs; clear hs
    go_enter Try.func40, Try.ntmps40
    have lA := hA.two
    go_wp2_with fail
    generalize ((w.alloc (.cells #[.slice a n c, .slice a' n' c'] 35)).alloc (.cells #[.int .i64 m] 2)).alloc (.cells #[.slice al nl cl] 22) = w0 at *
    refine (isSolution_any _ _ _ _ _ _ _ _ _ (h1.f.below hB) (h1.s.below hB) hm1 hm2).mono ?_
    rintro e w1 ⟨rfl, hb1⟩
    rw [HS.out]
    go_wp2
    go_ret2
    exact ⟨none, 0, 0, [], rfl, OwnT.nil _ _, below_th hB hb1⟩
  | true =>
    obtain ⟨hn1, hn12, sf, sg⟩ := isSol_sq hs
    have hl1 := h1.f.len
    have hl2 : n' = n := by rw [h1.s.len, hl1]; have := sg.len; omega
    subst hl2
    rw [← hl1] at hn1 hn12 sf sg
    have HSF := Lib.hid sf; have HSG := Lib.hid sg
    have HL := Lib.hid hl1
    have HS := Lib.hid hs
    clear sf sg hl1
    cases hp : rngB 1 12 m && rowOk n' m gs with
    | false =>
      have e : bouF f g m gs = ([], 2) := by
        cases h2 : rngB 1 12 m with
        | false => exact bouF_m hs h2
        | true => exact bouF_r hs h2 (by rw [← HL.out]; rw [h2] at hp; simpa using hp)
      rw [e]
      have HP := Lib.hid hp; clear hp hs e
      go_enter Try.func40, Try.ntmps40
      have lA := hA.two
      go_wp2_with fail
      generalize ((w.alloc (.cells #[.slice a n' c, .slice a' n' c'] 35)).alloc (.cells #[.int .i64 m] 2)).alloc (.cells #[.slice al nl cl] 22) = w0 at *
      refine (isSolution_any _ _ _ _ _ _ _ _ _ (h1.f.below hB) (h1.s.below hB) hm1 hm2).mono ?_
      rintro e w1 ⟨rfl, hb1⟩
      rw [HS.out]
      have lA1 := (hA.below hb1 hA.lt).two
      have lM1 := (hM.below hb1 hM.lt).one
      have lG1 := (hG.below hb1 hG.lt).one
      have hr1 := hr.below (below_th hB hb1)
      go_wp2_with fail
      refine (isShift_any n' m _ _ _ gs _ hr1 hnl).mono ?_
      rintro e w2 ⟨rfl, rfl⟩
      rw [HP.out]
      go_wp2
      go_ret2
      exact ⟨none, 0, 0, [], rfl, OwnT.nil _ _, below_th hB hb1⟩
    | true =>
      have hp2 := hp
      rw [Bool.and_eq_true] at hp2
      obtain ⟨hp2, hk⟩ := hp2
      rw [bouF_ok hs hp2 (by rw [← HL.out]; exact hk), ← HL.out]
      have hmm : 1 ≤ m ∧ m ≤ 12 := by simpa [rngB] using hp2
      obtain ⟨hq1, hq2⟩ := hmm
      have hln : nl = n' := by have h := (rowOk_get hk).1; have := hr.len; omega
      subst hln
      have HP := Lib.hid hp; have HK := Lib.hid hk; clear hp hs hk hp2
      go_enter Try.func40, Try.ntmps40
      have lA := hA.two
      go_wp2_with fail
      generalize ((w.alloc (.cells #[.slice a nl c, .slice a' nl c'] 35)).alloc (.cells #[.int .i64 m] 2)).alloc (.cells #[.slice al nl cl] 22) = w0 at *
      refine (isSolution_any _ _ _ _ _ _ _ _ _ (h1.f.below hB) (h1.s.below hB) hm1 hm2).mono ?_
      rintro e w1 ⟨rfl, hb1⟩
      rw [HS.out]
      have hA1 := hA.below hb1 hA.lt
      have hM1 := hM.below hb1 hM.lt
      have hG1 := hG.below hb1 hG.lt
      have lA1 := hA1.two
      have lM1 := hM1.one
      have lG1 := hG1.one
      have hB1 := below_th hB hb1
      clear hA hM hG lA hb1 hB
      go_wp2_with fail
      refine (isShift_any nl m _ _ _ gs _ (hr.below hB1) hnl).mono ?_
      rintro e w2 ⟨rfl, rfl⟩
      rw [HP.out]
      have T1 := h1.f.below hB1
      have T2 := h1.s.below hB1
      have T3 := hr.below hB1
      obtain ⟨bf, of, A, O, C, rfl, gf⟩ := T1.grid HSF.out hn1
      obtain ⟨bg, og, A', O', C', rfl, gg⟩ := T2.grid HSG.out hn1
      have hcl : ∀ x y, x < nl → y < nl → ∀ w2, Below w1.heap.size w1 w2 → Calls Try.prog 95 (#[.int .i64 x, .int .i64 y] ++ #[.pointer (some ⟨w.heap.size + 1 + 1, 0, none⟩), .pointer (some ⟨w.heap.size, 0, none⟩), .pointer (some ⟨w.heap.size + 1, 0, none⟩)]) w2 fun e w' => e = .returned (.int .i64 (bndE m f g gs x y)) ∧ Below w2.heap.size w2 w' := fun x y hx hy w2 hb2 =>
        (bound1_any m _ _ _ _ _ _ bf of bg og A O C A' O' C' nl c c' f g al cl gs x y w2 (hG1.below hb2 hG1.lt) (hA1.below hb2 hA1.lt) (hM1.below hb2 hM1.lt) (gf.below hb2) (gg.below hb2) HSF.out HSG.out (T3.below hb2) hq1 hq2 HK.out hx hy).mono fun e w' ⟨he, k, hw⟩ => ⟨he, by rw [hw]; exact below_drewN (Below.refl _ _) k⟩
      have HCL := Lib.hid hcl; clear hcl T1 T2 gf gg
      go_wp2_with fail
      refine (tableBy_any _ _ (bndE m f g gs) nl _ (by omega) ent_bound1 HCL.out).mono ?_
      rintro e w3 ⟨a3, c3, vs3, rfl, ho3, hb3⟩
      go_wp2
      go_ret2
      exact ⟨_, _, _, vs3, rfl, ho3.mono hB1.size, below_th hB1 hb3⟩

end Go.Proofs.Ythkpdodhkgdiaaa
