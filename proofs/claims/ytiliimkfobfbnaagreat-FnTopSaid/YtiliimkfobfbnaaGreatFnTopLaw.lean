/-
  The walk of the law of braces: it answers true.
  No condition.
-/
import Derived.Test.YtiliimkfobfbnaaGreatPt1
import Derived.Test.YtiliimkfobfbnaaGreatPt20
import Derived.Test.YtiliimkfobfbnaaGreatPt22
import Derived.Test.YtiliimkfobfbnaaGreatPt23
import Derived.Test.YtiliimkfobfbnaaGreatPt24
import Derived.Test.YtiliimkfobfbnaaGreatPt10
namespace Go.Proofs.YtiliimkfobfbnaaGreat
set_option maxRecDepth 100000
set_option linter.unusedVariables false
set_option linter.unusedSimpArgs false
open Go.RowKit
theorem dic_keep {w w' : World} {b B : Nat} (h : Dic w b) (hb : Below B w w') (hlt : b < B) : Dic w' b := by
  obtain ⟨a, n, c, xs, i, g, h1, h2, h3, h4, hB, hg, hL⟩ := h
  refine ⟨a, n, c, xs, i, g, h1, h2, h3, h4, ⟨hB.1, fun j hj => ?_, hB.2.2⟩, hg, hL.below hb hlt⟩
  obtain ⟨q, off, e1, e2, e3⟩ := hB.2.1 j hj
  exact ⟨q, off, e1, Nat.lt_of_lt_of_le e2 hb.size, (hb.cell (p := ⟨q, off + j, none⟩) (by have := hg (by omega) q off e1; show q < B; omega)).trans e3⟩
theorem dic_setne {w : World} {b : Nat} (h : Dic w b) {p : Addr} (hp : b < p.block) (u : Value) : Dic (w.setCell p u) b := dic_keep h (below_setne (Below.refl (b + 1) w) (by omega) u) (by omega)
/-- what a drawn brace is, by shape -/
def DrBrOk : Prop := ∀ (a : Option Addr) (n c : Nat) (xs : List Int) (w : World), Bts w a n xs → n ≤ 9223372036854775807 →
    Calls Tryz.prog 5 #[.slice a n c] w fun e w' => ∃ (b1 : Option Addr) (n1 d1 : Nat) (f : List (List Int)) (b2 : Option Addr) (n2 d2 : Nat) (g : List (List Int)), e = .returned (sAgg b1 n1 d1 b2 n2 d2) ∧ n1 ≤ 1000 ∧ n2 ≤ 1000 ∧ Tbl w' b1 n1 f ∧ Tbl w' b2 n2 g ∧ Below w.heap.size w w'
set_option maxHeartbeats 64000000 in
theorem law_Top_of (HDR : Hid DrBrOk) (a : Option Addr) (m c : Nat) (xs : List Int) (w : World) (h : Bts w a m xs) (hn : m ≤ 9223372036854775807) :
    Calls Tryz.prog 3 #[.slice a m c] w fun e w' => e = .returned (.bool true) ∧ Below w.heap.size w w' := by
  go_enter Tryz.func3, Tryz.ntmps3
  go_wp2_with fail
  refine (big_any a m c _ hn).mono ?_
  rintro e w0 ⟨rfl, rfl⟩
  by_cases hbig : 4096 < m
  · have hd : decide (4096 < m) = true := by simpa using hbig
    rw [hd]
    go_wp2
    go_ret
    exact ⟨rfl, Below.refl _ _⟩
  · have hd : decide (4096 < m) = false := by simpa using hbig
    rw [hd]
    clear hd hbig
    go_wp2_with fail
    refine (HDR.out a m c xs _ h hn).mono ?_
    rintro e w1 ⟨ab, n, cb, f, ag, n2, cg, g, rfl, hn1, hn2, tF, tG, hB⟩
    obtain ⟨w2, hww2⟩ : ∃ v, w1.alloc (.cells #[.slice ab n cb, .slice ag n2 cg] 26) = v := ⟨_, rfl⟩
    have kb : Loc w2 (w1.heap.size) #[.slice ab n cb, .slice ag n2 cg] 26 := by rw [← hww2]; exact Loc.new w1 rfl _ _
    have hbw2 : Below w1.heap.size w1 w2 := by rw [← hww2]; exact below_al (Below.refl _ _) _
    have HWw2 := Lib.hid hww2
    replace tF := tF.below hbw2
    replace tG := tG.below hbw2
    replace hB := below_th hB hbw2
    have lkb := kb.two
    go_wp2_with fail
    try rw [HWw2.out]
    refine (BraceSolution_any ab n cb ag n2 cg f g _ tF tG (by omega) (by omega)).mono ?_
    rintro e w3 (⟨hno, rfl, hbw3⟩ | ⟨hyes, a1, c1, vs1, a2, c2, vs2, rfl, hoS, hbw3⟩)
    · have HNO := Lib.hid hno
      clear hno
      clear lkb
      replace tF := tF.below hbw3
      replace tG := tG.below hbw3
      replace kb := kb.below hbw3 kb.lt
      replace hB := below_th hB hbw3
      obtain ⟨w4, hww4⟩ : ∃ v, w3.alloc (.cells #[.slice none 0 0, .slice none 0 0] 29) = v := ⟨_, rfl⟩
      have ks : Loc w4 (w3.heap.size) #[.slice none 0 0, .slice none 0 0] 29 := by rw [← hww4]; exact Loc.new w3 rfl _ _
      have hbw4 : Below w3.heap.size w3 w4 := by rw [← hww4]; exact below_al (Below.refl _ _) _
      have lxkb := (kb.alloc (.cells #[.slice none 0 0, .slice none 0 0] 29)).two
      have lxks := (Loc.new w3 rfl #[.slice none 0 0, .slice none 0 0] 29).two
      have HWw4 := Lib.hid hww4
      clear hww4
      replace tF := tF.below hbw4
      replace tG := tG.below hbw4
      replace kb := kb.below hbw4 kb.lt
      replace hB := below_th hB hbw4
      have lkb := kb.two
      have lks := ks.two
      go_wp2_with fail
      try rw [HWw4.out]
      refine (specBraceSolution_any ab n cb ag n2 cg f g _ tF tG (by omega) (by omega)).mono ?_
      rintro e w5 hor
      obtain ⟨_, rfl, hbw5⟩ := hor.resolve_right (fun hy => by have := HNO.out; rw [hy.1] at this; exact absurd this (by simp))
      clear hor
      clear lkb lks
      replace tF := tF.below hbw5
      replace tG := tG.below hbw5
      replace kb := kb.below hbw5 kb.lt
      replace ks := ks.below hbw5 ks.lt
      replace hB := below_th hB hbw5
      obtain ⟨w6, hww6⟩ : ∃ v, w5.alloc (.cells #[.slice none 0 0, .slice none 0 0] 29) = v := ⟨_, rfl⟩
      have kd : Loc w6 (w5.heap.size) #[.slice none 0 0, .slice none 0 0] 29 := by rw [← hww6]; exact Loc.new w5 rfl _ _
      have hbw6 : Below w5.heap.size w5 w6 := by rw [← hww6]; exact below_al (Below.refl _ _) _
      have lxkb := (kb.alloc (.cells #[.slice none 0 0, .slice none 0 0] 29)).two
      have lxks := (ks.alloc (.cells #[.slice none 0 0, .slice none 0 0] 29)).two
      have lxkd := (Loc.new w5 rfl #[.slice none 0 0, .slice none 0 0] 29).two
      have HWw6 := Lib.hid hww6
      clear hww6
      replace tF := tF.below hbw6
      replace tG := tG.below hbw6
      replace kb := kb.below hbw6 kb.lt
      replace ks := ks.below hbw6 ks.lt
      replace hB := below_th hB hbw6
      have lkb := kb.two
      have lks := ks.two
      have lkd := kd.two
      go_wp2_with fail
      try rw [HWw6.out]
      refine (solution9_same 0 none none none none 0 0 0 0 [] [] _ (Tbl.nil _ _) (Tbl.nil _ _) (Tbl.nil _ _) (Tbl.nil _ _) (by omega)).mono ?_
      rintro e w7 ⟨rfl, hbw7⟩
      clear lkb lks lkd
      replace tF := tF.below hbw7
      replace tG := tG.below hbw7
      replace kb := kb.below hbw7 kb.lt
      replace ks := ks.below hbw7 ks.lt
      replace kd := kd.below hbw7 kd.lt
      replace hB := below_th hB hbw7
      have lkb := kb.two
      have lks := ks.two
      have lkd := kd.two
      go_wp2
      go_ret
      exact ⟨rfl, hB⟩
    · have hT := BrT.of hyes tF.len
      obtain rfl : n = n2 := by have := tG.len; have := hT.sg.len; omega
      have HT := Lib.hid hT; have HY := Lib.hid hyes
      have n12 := hT.n12; have n1 := hT.n1
      clear hyes hT hn1 hn2
      clear lkb
      replace tF := tF.below hbw3
      replace tG := tG.below hbw3
      replace kb := kb.below hbw3 kb.lt
      replace hB := below_th hB hbw3
      have tL := hoS.f.tbl; have tR := hoS.s.tbl
      clear hoS
      obtain ⟨LA, HLA⟩ : ∃ t, Hid (lamT f g = t) := ⟨_, Lib.hid rfl⟩
      obtain ⟨RH, HRH⟩ : ∃ t, Hid (rhoT f g = t) := ⟨_, Lib.hid rfl⟩
      have hsl := brc_sqL HT.out; have hso := brc_sol HT.out.is; have hzz := brc_zero HT.out; have hiv := brc_ivl HT.out; have hdu := brc_dual HT.out; have hqb := quo_brc HT.out; have hac := ldAC HT.out
      rw [HLA.out, HRH.out] at hsl hso hzz hiv hdu hac
      rw [HLA.out] at tL; rw [HRH.out] at tR
      have HSL := Lib.hid hsl; have HSO := Lib.hid hso; have HZZ := Lib.hid hzz; have HIV := Lib.hid hiv; have HDU := Lib.hid hdu; have HQB := Lib.hid hqb; have HAC := Lib.hid hac
      have HPM := Lib.hid (isSol_pm hso.1)
      clear hsl hso hzz hiv hdu hqb hac
      obtain ⟨w24, hww24⟩ : ∃ v, w3.alloc (.cells #[.slice a1 n c1, .slice a2 n c2] 29) = v := ⟨_, rfl⟩
      have ks : Loc w24 (w3.heap.size) #[.slice a1 n c1, .slice a2 n c2] 29 := by rw [← hww24]; exact Loc.new w3 rfl _ _
      have hbw24 : Below w3.heap.size w3 w24 := by rw [← hww24]; exact below_al (Below.refl _ _) _
      have HWw24 := Lib.hid hww24
      replace tF := tF.below hbw24
      replace tG := tG.below hbw24
      replace kb := kb.below hbw24 kb.lt
      replace tL := tL.below hbw24
      replace tR := tR.below hbw24
      replace hB := below_th hB hbw24
      have lkb := kb.two
      have lks := ks.two
      go_wp2_with fail
      try rw [HWw24.out]
      refine (specBraceSolution_any ab n cb ag n cg f g _ tF tG (by omega) (by omega)).mono ?_
      rintro e w25 hor
      obtain ⟨_, a3, c3, vs3, a4, c4, vs4, rfl, hoS, hbw25⟩ := hor.resolve_left (fun hy => by have := HY.out; rw [hy.1] at this; exact absurd this (by simp))
      clear hor
      clear lkb lks
      replace tF := tF.below hbw25
      replace tG := tG.below hbw25
      replace kb := kb.below hbw25 kb.lt
      replace tL := tL.below hbw25
      replace tR := tR.below hbw25
      replace ks := ks.below hbw25 ks.lt
      replace hB := below_th hB hbw25
      have tL2 := hoS.f.tbl; have tR2 := hoS.s.tbl
      rw [HLA.out] at tL2; rw [HRH.out] at tR2
      clear hoS
      obtain ⟨w26, hww26⟩ : ∃ v, w25.alloc (.cells #[.slice a3 n c3, .slice a4 n c4] 29) = v := ⟨_, rfl⟩
      have kd : Loc w26 (w25.heap.size) #[.slice a3 n c3, .slice a4 n c4] 29 := by rw [← hww26]; exact Loc.new w25 rfl _ _
      have hbw26 : Below w25.heap.size w25 w26 := by rw [← hww26]; exact below_al (Below.refl _ _) _
      have HWw26 := Lib.hid hww26
      replace tF := tF.below hbw26
      replace tG := tG.below hbw26
      replace kb := kb.below hbw26 kb.lt
      replace tL := tL.below hbw26
      replace tR := tR.below hbw26
      replace ks := ks.below hbw26 ks.lt
      replace tL2 := tL2.below hbw26
      replace tR2 := tR2.below hbw26
      replace hB := below_th hB hbw26
      have lkb := kb.two
      have lks := ks.two
      have lkd := kd.two
      go_wp2_with fail
      try rw [HWw26.out]
      refine (solution9_same n a1 a2 a3 a4 c1 c2 c3 c4 LA RH _ tL tR tL2 tR2 (by omega)).mono ?_
      rintro e w27 ⟨rfl, hbw27⟩
      clear lkb lks lkd
      replace tF := tF.below hbw27
      replace tG := tG.below hbw27
      replace kb := kb.below hbw27 kb.lt
      replace tL := tL.below hbw27
      replace tR := tR.below hbw27
      replace ks := ks.below hbw27 ks.lt
      replace tL2 := tL2.below hbw27
      replace tR2 := tR2.below hbw27
      replace kd := kd.below hbw27 kd.lt
      replace hB := below_th hB hbw27
      clear tL2 tR2 kd
      have lkb := kb.two
      have lks := ks.two
      go_wp2_with fail
      try rw [HWw27.out]
      refine (IsNondegenerate_ok n a1 a2 c1 c2 LA RH _ tL tR HPM.out).mono ?_
      rintro e w28 ⟨rfl, hbw28⟩
      clear lkb lks
      replace tF := tF.below hbw28
      replace tG := tG.below hbw28
      replace kb := kb.below hbw28 kb.lt
      replace tL := tL.below hbw28
      replace tR := tR.below hbw28
      replace ks := ks.below hbw28 ks.lt
      replace hB := below_th hB hbw28
      rw [HSO.out.2]
      have lkb := kb.two
      have lks := ks.two
      go_wp2_with fail
      try rw [HWw28.out]
      refine (IsInvolutive_ok n a1 a2 c1 c2 LA RH _ tL tR HPM.out).mono ?_
      rintro e w29 ⟨rfl, hbw29⟩
      clear lkb lks
      replace tF := tF.below hbw29
      replace tG := tG.below hbw29
      replace kb := kb.below hbw29 kb.lt
      replace tL := tL.below hbw29
      replace tR := tR.below hbw29
      replace ks := ks.below hbw29 ks.lt
      replace hB := below_th hB hbw29
      rw [HIV.out]
      obtain ⟨D, HD⟩ : ∃ D, Hid (decide (f = trnL n f) = D) := ⟨_, Lib.hid rfl⟩
      rw [HD.out]
      have lkb := kb.two
      have lks := ks.two
      go_wp2_with fail
      try rw [HWw29.out]
      refine (IsClassicalBrace_yes n ab ag cb cg f g _ tF tG HT.out).mono ?_
      rintro e w30 ⟨rfl, hbw30⟩
      clear lkb lks
      replace tF := tF.below hbw30
      replace tG := tG.below hbw30
      replace kb := kb.below hbw30 kb.lt
      replace tL := tL.below hbw30
      replace tR := tR.below hbw30
      replace ks := ks.below hbw30 ks.lt
      replace hB := below_th hB hbw30
      rw [HD.out]
      have lkb := kb.two
      have lks := ks.two
      go_wp2_with fail
      try rw [HWw30.out]
      refine (DerivedRack_any n a1 a2 c1 c2 LA RH _ tL tR HSO.out.1 n12).mono ?_
      rintro e w31 hor
      obtain ⟨_, a5, c5, vs5, rfl, hoD, hbw31⟩ := hor.resolve_left (fun hy => by have := HSO.out.2; rw [hy.1] at this; exact absurd this (by simp))
      clear hor
      clear lkb lks
      replace tF := tF.below hbw31
      replace tG := tG.below hbw31
      replace kb := kb.below hbw31 kb.lt
      replace tL := tL.below hbw31
      replace tR := tR.below hbw31
      replace ks := ks.below hbw31 ks.lt
      replace hB := below_th hB hbw31
      have tD := hoD.tbl; clear hoD
      obtain ⟨w32, hww32⟩ : ∃ v, w31.alloc (.cells #[.slice a5 n c5] 37) = v := ⟨_, rfl⟩
      have kr : Loc w32 (w31.heap.size) #[.slice a5 n c5] 37 := by rw [← hww32]; exact Loc.new w31 rfl _ _
      have hbw32 : Below w31.heap.size w31 w32 := by rw [← hww32]; exact below_al (Below.refl _ _) _
      have HWw32 := Lib.hid hww32
      replace tF := tF.below hbw32
      replace tG := tG.below hbw32
      replace kb := kb.below hbw32 kb.lt
      replace tL := tL.below hbw32
      replace tR := tR.below hbw32
      replace ks := ks.below hbw32 ks.lt
      replace tD := tD.below hbw32
      replace hB := below_th hB hbw32
      have lkb := kb.two
      have lks := ks.two
      have lkr := kr.one
      go_wp2_with fail
      try rw [HWw32.out]
      refine (GroupConjugation_yes n ab cb f _ tF HT.out.sf HT.out.rf (isBrc_grp HT.out.is).1 n1 n12).mono ?_
      rintro e w33 ⟨a6, c6, vs6, rfl, hoC, hbw33⟩
      clear lkb lks lkr
      replace tF := tF.below hbw33
      replace tG := tG.below hbw33
      replace kb := kb.below hbw33 kb.lt
      replace tL := tL.below hbw33
      replace tR := tR.below hbw33
      replace ks := ks.below hbw33 ks.lt
      replace tD := tD.below hbw33
      replace kr := kr.below hbw33 kr.lt
      replace hB := below_th hB hbw33
      have tC := hoC.tbl; clear hoC
      obtain ⟨w34, hww34⟩ : ∃ v, w33.alloc (.cells #[.slice a6 n c6] 37) = v := ⟨_, rfl⟩
      have kc : Loc w34 (w33.heap.size) #[.slice a6 n c6] 37 := by rw [← hww34]; exact Loc.new w33 rfl _ _
      have hbw34 : Below w33.heap.size w33 w34 := by rw [← hww34]; exact below_al (Below.refl _ _) _
      have HWw34 := Lib.hid hww34
      replace tF := tF.below hbw34
      replace tG := tG.below hbw34
      replace kb := kb.below hbw34 kb.lt
      replace tL := tL.below hbw34
      replace tR := tR.below hbw34
      replace ks := ks.below hbw34 ks.lt
      replace tD := tD.below hbw34
      replace kr := kr.below hbw34 kr.lt
      replace tC := tC.below hbw34
      replace hB := below_th hB hbw34
      have lkb := kb.two
      have lks := ks.two
      have lkr := kr.one
      have lkc := kc.one
      go_wp2_with fail
      try rw [HWw34.out]
      refine (DualRack_yes n a6 c6 _ _ tC (cj_rack HT.out).2 (cj_rack HT.out).1 n12).mono ?_
      rintro e w35 ⟨a7, c7, vs7, rfl, hoU, hbw35⟩
      clear lkb lks lkr lkc
      replace tF := tF.below hbw35
      replace tG := tG.below hbw35
      replace kb := kb.below hbw35 kb.lt
      replace tL := tL.below hbw35
      replace tR := tR.below hbw35
      replace ks := ks.below hbw35 ks.lt
      replace tD := tD.below hbw35
      replace kr := kr.below hbw35 kr.lt
      replace tC := tC.below hbw35
      replace kc := kc.below hbw35 kc.lt
      replace hB := below_th hB hbw35
      have tU := hoU.tbl; clear hoU
      rw [← HDU.out] at tU
      obtain ⟨w36, hww36⟩ : ∃ v, w35.alloc (.cells #[.slice a7 n c7] 37) = v := ⟨_, rfl⟩
      have ku : Loc w36 (w35.heap.size) #[.slice a7 n c7] 37 := by rw [← hww36]; exact Loc.new w35 rfl _ _
      have hbw36 : Below w35.heap.size w35 w36 := by rw [← hww36]; exact below_al (Below.refl _ _) _
      have HWw36 := Lib.hid hww36
      replace tF := tF.below hbw36
      replace tG := tG.below hbw36
      replace kb := kb.below hbw36 kb.lt
      replace tL := tL.below hbw36
      replace tR := tR.below hbw36
      replace ks := ks.below hbw36 ks.lt
      replace tD := tD.below hbw36
      replace kr := kr.below hbw36 kr.lt
      replace tC := tC.below hbw36
      replace kc := kc.below hbw36 kc.lt
      replace tU := tU.below hbw36
      replace hB := below_th hB hbw36
      clear tC kc
      have lkb := kb.two
      have lks := ks.two
      have lkr := kr.one
      have lku := ku.one
      go_wp2_with fail
      try rw [HWw36.out]
      refine (RetractOf_yes n a1 a2 c1 c2 LA RH _ tL tR HSL.out.1 HSL.out.2 n1 n12 HSO.out.1 HSO.out.2).mono ?_
      rintro e w37 ⟨a8, c8, vs8, a9, c9, vs9, rfl, hoR, hbw37⟩
      clear lkb lks lkr lku
      replace tF := tF.below hbw37
      replace tG := tG.below hbw37
      replace kb := kb.below hbw37 kb.lt
      replace tL := tL.below hbw37
      replace tR := tR.below hbw37
      replace ks := ks.below hbw37 ks.lt
      replace tD := tD.below hbw37
      replace kr := kr.below hbw37 kr.lt
      replace tU := tU.below hbw37
      replace ku := ku.below hbw37 ku.lt
      replace hB := below_th hB hbw37
      have tP := hoR.f.tbl; have tQ := hoR.s.tbl; clear hoR
      have hqc1 := quT_cong (ldA_ldr n LA RH) HAC.out HSL.out.1; have hqc2 := quT_cong (ldA_ldr n LA RH) HAC.out HSL.out.2
      obtain ⟨M, HM⟩ : ∃ M, Hid (rkL (ldC f (socN n f g)) n = M) := ⟨_, Lib.hid rfl⟩
      rw [hqc1.1, hqc1.2, HM.out] at tP; rw [hqc2.1, hqc2.2, HM.out] at tQ; rw [hqc1.2, HM.out]
      clear hqc1 hqc2
      obtain ⟨w38, hww38⟩ : ∃ v, w37.alloc (.cells #[.slice a8 M c8, .slice a9 M c9] 29) = v := ⟨_, rfl⟩
      have kt : Loc w38 (w37.heap.size) #[.slice a8 M c8, .slice a9 M c9] 29 := by rw [← hww38]; exact Loc.new w37 rfl _ _
      have hbw38 : Below w37.heap.size w37 w38 := by rw [← hww38]; exact below_al (Below.refl _ _) _
      have HWw38 := Lib.hid hww38
      replace tF := tF.below hbw38
      replace tG := tG.below hbw38
      replace kb := kb.below hbw38 kb.lt
      replace tL := tL.below hbw38
      replace tR := tR.below hbw38
      replace ks := ks.below hbw38 ks.lt
      replace tD := tD.below hbw38
      replace kr := kr.below hbw38 kr.lt
      replace tU := tU.below hbw38
      replace ku := ku.below hbw38 ku.lt
      replace tP := tP.below hbw38
      replace tQ := tQ.below hbw38
      replace hB := below_th hB hbw38
      have lkb := kb.two
      have lks := ks.two
      have lkr := kr.one
      have lku := ku.one
      have lkt := kt.two
      go_wp2_with fail
      try rw [HWw38.out]
      refine (SocleOf_yes n ab ag cb cg f g _ tF tG HT.out).mono ?_
      rintro e w39 ⟨rfl, hbw39⟩
      clear lkb lks lkr lku lkt
      replace tF := tF.below hbw39
      replace tG := tG.below hbw39
      replace kb := kb.below hbw39 kb.lt
      replace tL := tL.below hbw39
      replace tR := tR.below hbw39
      replace ks := ks.below hbw39 ks.lt
      replace tD := tD.below hbw39
      replace kr := kr.below hbw39 kr.lt
      replace tU := tU.below hbw39
      replace ku := ku.below hbw39 ku.lt
      replace tP := tP.below hbw39
      replace tQ := tQ.below hbw39
      replace kt := kt.below hbw39 kt.lt
      replace hB := below_th hB hbw39
      obtain ⟨S0, HS0⟩ : ∃ s, Hid (setN (socB n f g) n = s) := ⟨_, Lib.hid rfl⟩
      rw [HS0.out]
      have HSS : Hid (socN n f g = S0) := Lib.hid HS0.out
      have hqq := fun (w : World) (t1 : Tbl w ab n f) (t2 : Tbl w ag n g) => QuotientBrace_yes n (socN n f g) ab ag cb cg f g w t1 t2 HT.out (socN_lt n f g) (soc_0 HT.out) (soc_cl HT.out) (soc_lm HT.out) (soc_na HT.out) (soc_nc HT.out) (ldC_ldr HT.out)
      have hqb := HQB.out
      rw [HM.out] at hqq hqb
      obtain ⟨QA, HQA⟩ : ∃ t, Hid (quT n (ldC f (socN n f g)) f = t) := ⟨_, Lib.hid rfl⟩
      obtain ⟨QC, HQC⟩ : ∃ t, Hid (quT n (ldC f (socN n f g)) g = t) := ⟨_, Lib.hid rfl⟩
      rw [HQA.out, HQC.out] at hqq hqb
      rw [HLA.out, HRH.out] at hqb
      rw [HSS.out] at hqq
      have HQQ := Lib.hid hqq; have HQB2 := Lib.hid hqb
      clear hqq hqb HQB
      have lkb := kb.two
      have lks := ks.two
      have lkr := kr.one
      have lku := ku.one
      have lkt := kt.two
      go_wp2_with fail
      try rw [HWw39.out]
      refine (HQQ.out _ tF tG).mono ?_
      rintro e w40 ⟨a10, c10, vs10, a11, c11, vs11, rfl, hoQ, hbw40⟩
      clear lkb lks lkr lku lkt
      replace tF := tF.below hbw40
      replace tG := tG.below hbw40
      replace kb := kb.below hbw40 kb.lt
      replace tL := tL.below hbw40
      replace tR := tR.below hbw40
      replace ks := ks.below hbw40 ks.lt
      replace tD := tD.below hbw40
      replace kr := kr.below hbw40 kr.lt
      replace tU := tU.below hbw40
      replace ku := ku.below hbw40 ku.lt
      replace tP := tP.below hbw40
      replace tQ := tQ.below hbw40
      replace kt := kt.below hbw40 kt.lt
      replace hB := below_th hB hbw40
      have tX := hoQ.f.tbl; have tY := hoQ.s.tbl; clear hoQ
      obtain ⟨w41, hww41⟩ : ∃ v, w40.alloc (.cells #[.slice a10 M c10, .slice a11 M c11] 26) = v := ⟨_, rfl⟩
      have kq : Loc w41 (w40.heap.size) #[.slice a10 M c10, .slice a11 M c11] 26 := by rw [← hww41]; exact Loc.new w40 rfl _ _
      have hbw41 : Below w40.heap.size w40 w41 := by rw [← hww41]; exact below_al (Below.refl _ _) _
      have HWw41 := Lib.hid hww41
      replace tF := tF.below hbw41
      replace tG := tG.below hbw41
      replace kb := kb.below hbw41 kb.lt
      replace tL := tL.below hbw41
      replace tR := tR.below hbw41
      replace ks := ks.below hbw41 ks.lt
      replace tD := tD.below hbw41
      replace kr := kr.below hbw41 kr.lt
      replace tU := tU.below hbw41
      replace ku := ku.below hbw41 ku.lt
      replace tP := tP.below hbw41
      replace tQ := tQ.below hbw41
      replace kt := kt.below hbw41 kt.lt
      replace tX := tX.below hbw41
      replace tY := tY.below hbw41
      replace hB := below_th hB hbw41
      have hMb : M ≤ 12 := by rw [← HM.out]; have := rkL_bd (ldC f (socN n f g)) n; omega
      have lkb := kb.two
      have lks := ks.two
      have lkr := kr.one
      have lku := ku.one
      have lkt := kt.two
      have lkq := kq.two
      go_wp2_with fail
      try rw [HWw41.out]
      refine (BraceSolution_any a10 M c10 a11 M c11 QA QC _ tX tY (by omega) (by omega)).mono ?_
      rintro e w42 hor
      obtain ⟨_, a12, c12, vs12, a13, c13, vs13, rfl, hoS, hbw42⟩ := hor.resolve_left (fun hy => by have := HQB2.out.1; rw [hy.1] at this; exact absurd this (by simp))
      clear hor
      clear lkb lks lkr lku lkt lkq
      replace tF := tF.below hbw42
      replace tG := tG.below hbw42
      replace kb := kb.below hbw42 kb.lt
      replace tL := tL.below hbw42
      replace tR := tR.below hbw42
      replace ks := ks.below hbw42 ks.lt
      replace tD := tD.below hbw42
      replace kr := kr.below hbw42 kr.lt
      replace tU := tU.below hbw42
      replace ku := ku.below hbw42 ku.lt
      replace tP := tP.below hbw42
      replace tQ := tQ.below hbw42
      replace kt := kt.below hbw42 kt.lt
      replace tX := tX.below hbw42
      replace tY := tY.below hbw42
      replace kq := kq.below hbw42 kq.lt
      replace hB := below_th hB hbw42
      have tP2 := hoS.f.tbl; have tQ2 := hoS.s.tbl; clear hoS
      rw [HQB2.out.2.2.1] at tP2; rw [HQB2.out.2.2.2] at tQ2
      obtain ⟨w43, hww43⟩ : ∃ v, w42.alloc (.cells #[.slice a12 M c12, .slice a13 M c13] 29) = v := ⟨_, rfl⟩
      have kz : Loc w43 (w42.heap.size) #[.slice a12 M c12, .slice a13 M c13] 29 := by rw [← hww43]; exact Loc.new w42 rfl _ _
      have hbw43 : Below w42.heap.size w42 w43 := by rw [← hww43]; exact below_al (Below.refl _ _) _
      have HWw43 := Lib.hid hww43
      replace tF := tF.below hbw43
      replace tG := tG.below hbw43
      replace kb := kb.below hbw43 kb.lt
      replace tL := tL.below hbw43
      replace tR := tR.below hbw43
      replace ks := ks.below hbw43 ks.lt
      replace tD := tD.below hbw43
      replace kr := kr.below hbw43 kr.lt
      replace tU := tU.below hbw43
      replace ku := ku.below hbw43 ku.lt
      replace tP := tP.below hbw43
      replace tQ := tQ.below hbw43
      replace kt := kt.below hbw43 kt.lt
      replace tX := tX.below hbw43
      replace tY := tY.below hbw43
      replace kq := kq.below hbw43 kq.lt
      replace tP2 := tP2.below hbw43
      replace tQ2 := tQ2.below hbw43
      replace hB := below_th hB hbw43
      have uD : (D != D) = false := by simp
      have lkb := kb.two
      have lks := ks.two
      have lkr := kr.one
      have lku := ku.one
      have lkt := kt.two
      have lkq := kq.two
      have lkz := kz.two
      go_wp2_with fail
      try rw [HWw43.out]
      refine (isSolution_any a1 n c1 a2 n c2 LA RH _ tL tR (by omega) (by omega)).mono ?_
      rintro e w44 ⟨rfl, hbw44⟩
      clear lkb lks lkr lku lkt lkq lkz
      replace tF := tF.below hbw44
      replace tG := tG.below hbw44
      replace kb := kb.below hbw44 kb.lt
      replace tL := tL.below hbw44
      replace tR := tR.below hbw44
      replace ks := ks.below hbw44 ks.lt
      replace tD := tD.below hbw44
      replace kr := kr.below hbw44 kr.lt
      replace tU := tU.below hbw44
      replace ku := ku.below hbw44 ku.lt
      replace tP := tP.below hbw44
      replace tQ := tQ.below hbw44
      replace kt := kt.below hbw44 kt.lt
      replace tX := tX.below hbw44
      replace tY := tY.below hbw44
      replace kq := kq.below hbw44 kq.lt
      replace tP2 := tP2.below hbw44
      replace tQ2 := tQ2.below hbw44
      replace kz := kz.below hbw44 kz.lt
      replace hB := below_th hB hbw44
      rw [HSO.out.1]
      have lkb := kb.two
      have lks := ks.two
      have lkr := kr.one
      have lku := ku.one
      have lkt := kt.two
      have lkq := kq.two
      have lkz := kz.two
      go_wp2_with fail
      try rw [HWw44.out]
      refine (same9_same a5 a7 n n c5 c7 (drL n LA RH) _ tD tU (by omega)).mono ?_
      rintro e w45 ⟨rfl, hbw45⟩
      clear lkb lks lkr lku lkt lkq lkz
      replace tF := tF.below hbw45
      replace tG := tG.below hbw45
      replace kb := kb.below hbw45 kb.lt
      replace tL := tL.below hbw45
      replace tR := tR.below hbw45
      replace ks := ks.below hbw45 ks.lt
      replace tD := tD.below hbw45
      replace kr := kr.below hbw45 kr.lt
      replace tU := tU.below hbw45
      replace ku := ku.below hbw45 ku.lt
      replace tP := tP.below hbw45
      replace tQ := tQ.below hbw45
      replace kt := kt.below hbw45 kt.lt
      replace tX := tX.below hbw45
      replace tY := tY.below hbw45
      replace kq := kq.below hbw45 kq.lt
      replace tP2 := tP2.below hbw45
      replace tQ2 := tQ2.below hbw45
      replace kz := kz.below hbw45 kz.lt
      replace hB := below_th hB hbw45
      have lkb := kb.two
      have lks := ks.two
      have lkr := kr.one
      have lku := ku.one
      have lkt := kt.two
      have lkq := kq.two
      have lkz := kz.two
      go_wp2_with fail
      try rw [HWw45.out]
      refine (solution9_same M a8 a9 a12 a13 c8 c9 c12 c13 _ _ _ tP tQ tP2 tQ2 (by omega)).mono ?_
      rintro e w46 ⟨rfl, hbw46⟩
      clear lkb lks lkr lku lkt lkq lkz
      replace tF := tF.below hbw46
      replace tG := tG.below hbw46
      replace kb := kb.below hbw46 kb.lt
      replace tL := tL.below hbw46
      replace tR := tR.below hbw46
      replace ks := ks.below hbw46 ks.lt
      replace tD := tD.below hbw46
      replace kr := kr.below hbw46 kr.lt
      replace tU := tU.below hbw46
      replace ku := ku.below hbw46 ku.lt
      replace tP := tP.below hbw46
      replace tQ := tQ.below hbw46
      replace kt := kt.below hbw46 kt.lt
      replace tX := tX.below hbw46
      replace tY := tY.below hbw46
      replace kq := kq.below hbw46 kq.lt
      replace tP2 := tP2.below hbw46
      replace tQ2 := tQ2.below hbw46
      replace kz := kz.below hbw46 kz.lt
      replace hB := below_th hB hbw46
      clear tU ku tP tQ kt tX tY kq tP2 tQ2 kz tG
      have HRK : Hid (isRk (drL n LA RH) = true) := Lib.hid (by have hd := HSO.out.2; unfold ndF at hd; rw [Bool.and_eq_true] at hd; have := ybe_of HSO.out.1 hd.1; rw [HSL.out.1.len] at this; exact this.rk n12)
      have lkb := kb.two
      have lks := ks.two
      have lkr := kr.one
      have hE := Own.fresh w46 rfl
      have hqe := below_al (Below.refl w46.heap.size w46) (.cells #[] 2)
      have lkbx := (kb.alloc (.cells #[] 2)).two
      go_wp2
      clear lkbx
      go_loopw [28, 29] (fun u i wr => ∃ (k : Nat) (au : Option Addr) (cu : Nat), k ≤ n ∧ i = .int .i64 k ∧ u = .slice au k cu ∧ Own wr w46.heap.size au k cu (unitL k) ∧ Below w46.heap.size w46 wr) (fun _ i _ => n - (intOf i).toNat)
      case atStart => exact ⟨0, _, 0, Nat.zero_le _, rfl, rfl, by simpa [unitL] using hE, hqe⟩
      case round =>
        clear hE hqe lkb lks lkr
        obtain ⟨k, au, cu, hk, rfl, rfl, hu, hq⟩ := hrel
        have lkb := (kb.below hq kb.lt).two
        by_cases hlt : k < n
        · have HS := Lib.hid (unitL_succ k)
          have hqs := hq.size
          go_wp2_with (at_builtin; refine app1 rfl rfl hu rfl rfl (by omega) hqs ?_; intro g' cc w8 hO8 hg8 hs8 hb8)
          go_roundw
          case rel => exact ⟨k + 1, _, _, by omega, by go_num, rfl, by rw [HS.out]; exact hO8, hq.trans hb8⟩
          case measure => simp [intOf]; omega
        · obtain rfl : n = k := by omega
          obtain ⟨V, rfl⟩ : ∃ V : World, V = wr := ⟨_, rfl⟩
          replace tF := tF.below hq
          replace kb := kb.below hq kb.lt
          replace tL := tL.below hq
          replace tR := tR.below hq
          replace ks := ks.below hq ks.lt
          replace tD := tD.below hq
          replace kr := kr.below hq kr.lt
          replace hB := below_th hB hq
          have hrow := hu.row
          go_wp2_with fail
          refine (roll_ok a m c xs 2099 _ (h.below hB) hn).mono ?_
          rintro e v1 ⟨bd, rfl, hbd, hd1, hBV⟩
          clear lkb hu hq
          go_wp2_with fail
          refine (below_ok bd 2 _ hd1 ⟨by omega, by omega⟩).mono ?_
          rintro e v2 ⟨x0, rfl, _, hx0, hd2, hg2⟩
          obtain ⟨hx1, hx2⟩ := hx0 (by omega)
          obtain ⟨y0, rfl⟩ : ∃ y : Nat, x0 = y := ⟨x0.toNat, by omega⟩
          obtain ⟨S, hS⟩ : ∃ S : Nat, S = 2 + y0 := ⟨_, rfl⟩
          have hS23 : 2 ≤ S ∧ S ≤ 3 := by omega
          have HSw : Hid (IntKind.i64.wrap (2 + (y0 : Int)) = (S : Int)) := Lib.hid ((IntWalk.i64_in _ ⟨by omega, by omega⟩).trans (by omega))
          have HSw2 : Hid (wrap64 (2 + (y0 : Int)) = (S : Int)) := Lib.hid ((IntWalk.wrap64_in _ ⟨by omega, by omega⟩).trans (by omega))
          have hB2 := below_grown hBV hg2 hbd
          have hbdl := hd2.lt
          have h64_6 : I64 6 := ⟨by omega, by omega⟩
          clear hx0 hg2 hBV hd1 hS
          obtain ⟨v3, hv3⟩ : ∃ v, v2.alloc (.cells #[.int .i64 S, .slice none 0 0] 56) = v := ⟨_, rfl⟩
          have kB : Loc v3 v2.heap.size #[.int .i64 S, .slice none 0 0] 56 := by rw [← hv3]; exact Loc.new v2 rfl _ _
          have hb3 : Below v2.heap.size v2 v3 := by rw [← hv3]; exact below_al (Below.refl _ _) _
          have hz3 : v2.heap.size ≤ v3.heap.size := hb3.size
          have HZ3 := Lib.hid hz3
          have HV3 := Lib.hid hv3
          have hd3 := hd2.below hb3
          have hB3 := below_th hB2 hb3
          clear hz3 hb3 hd2 hB2 hv3
          have hSw := HSw.out; have hSw2 := HSw2.out
          have lxB := (Loc.new v2 rfl #[.int .i64 S, .slice none 0 0] 56).two
          go_wp2_with fail
          try rw [HV3.out]
          clear lxB hSw hSw2
          refine (below_ok bd 6 _ hd3 h64_6).mono ?_
          rintro e v4 ⟨k0, rfl, _, hk0, hd4, hg4⟩
          obtain ⟨hk1, hk2⟩ := hk0 (by omega)
          obtain ⟨K, rfl⟩ : ∃ K : Nat, k0 = K := ⟨k0.toNat, by omega⟩
          have kB4 := kB.grown hg4 (by simp; omega)
          have hB4 := below_grown hB3 hg4 hbd
          clear hk0 hg4 hB3 hd3 kB
          go_wp2
          go_loopw [32, 33] (fun q _ wr => ∃ (kk nw : Nat) (aw : Option Addr) (cw : Nat) (ys : List Int), q = .int .i64 kk ∧ kk + nw ≤ 6 ∧ Loc wr v2.heap.size #[.int .i64 S, .slice aw nw cw] 56 ∧ Own wr (v2.heap.size + 1) aw nw cw ys ∧ Dic wr bd ∧ Below V.heap.size V wr ∧ Hid (∀ x ∈ ys, x ≠ 0 ∧ 1 - (S : Int) ≤ x ∧ x ≤ (S : Int) - 1)) (fun q _ _ => (intOf q).toNat)
          case atStart => exact ⟨K, 0, none, 0, [], rfl, by omega, kB4, Own.nil _ _, hd4, hB4, Lib.hid (by simp)⟩
          case round =>
            clear kB4 hd4 hB4
            obtain ⟨kk, nw, aw, cw, ys, rfl, hkn, kB, ho, hd, hB5, hL⟩ := hrel
            obtain ⟨X, rfl⟩ : ∃ X : World, X = wr := ⟨_, rfl⟩
            have lB := kB.two
            have hBl := kB.lt
            by_cases hpos : 0 < kk
            · have hg : decide ((0 : Int) < (kk : Int)) = true := by simp; omega
              have HW1 : Hid (IntKind.i64.wrap ((S : Int) - 1) = (S : Int) - 1) := Lib.hid (IntWalk.i64_in _ ⟨by omega, by omega⟩)
              have h64_1 : I64 ((S : Int) - 1) := ⟨by omega, by omega⟩
              have h64_3 : I64 3 := ⟨by omega, by omega⟩
              have s1 := HW1.out
              go_wp2_with fail
              refine (below_ok bd ((S : Int) - 1) _ hd h64_1).mono ?_
              clear s1
              rintro e x1 ⟨y1, rfl, _, hy1, hd1, hg1⟩
              obtain ⟨p1, p2⟩ := hy1 (by omega)
              obtain ⟨l, rfl⟩ : ∃ l : Nat, y1 = l := ⟨y1.toNat, by omega⟩
              have kB1 := kB.grown hg1 (by simp; omega)
              have ho1 := ho.grown hg1 (fun g e => by have := ho.lo g e; simp; omega)
              have hB6 := below_grown hB5 hg1 hbd
              have HW2 : Hid (IntKind.i64.wrap (1 + (l : Int)) = (l : Int) + 1) := Lib.hid ((IntWalk.i64_in _ ⟨by omega, by omega⟩).trans (by omega))
              have HW2' : Hid (wrap64 (1 + (l : Int)) = (l : Int) + 1) := Lib.hid ((IntWalk.wrap64_in _ ⟨by omega, by omega⟩).trans (by omega))
              clear lB kB ho hd hB5 hg1 hy1 hBl
              have s2 := HW2.out; have s2' := HW2'.out
              go_wp2_with fail
              refine (below_ok bd 3 _ hd1 h64_3).mono ?_
              clear s2 s2'
              rintro e x2 ⟨y2, rfl, _, hy2, hd2, hg2⟩
              obtain ⟨p3, p4⟩ := hy2 (by omega)
              have kB2 := kB1.grown hg2 (by simp; omega)
              have ho2 := ho1.grown hg2 (fun g e => by have := ho1.lo g e; simp; omega)
              have hB7 := below_grown hB6 hg2 hbd
              have lB2 := kB2.two
              have hB2l := kB2.lt
              have HW3 : Hid (IntKind.i64.wrap (-((l : Int) + 1)) = -((l : Int) + 1)) := Lib.hid (IntWalk.i64_in _ ⟨by omega, by omega⟩)
              have HW4 : Hid (IntKind.i64.wrap ((kk : Int) - 1) = ((kk - 1 : Nat) : Int)) := Lib.hid ((IntWalk.i64_in _ ⟨by omega, by omega⟩).trans (by omega))
              have HW4' : Hid (wrap64 ((kk : Int) - 1) = ((kk - 1 : Nat) : Int)) := Lib.hid ((IntWalk.wrap64_in _ ⟨by omega, by omega⟩).trans (by omega))
              have hVb : V.heap.size ≤ v2.heap.size := by omega
              have hnw : nw + 1 ≤ 1000000000000 := by omega
              have hx2s : v2.heap.size + 1 ≤ x2.heap.size := by omega
              have hvlt : v2.heap.size < v2.heap.size + 1 := by omega
              clear kB1 ho1 hd1 hB6 hg2 hy2
              by_cases hz : y2 = 0
              · have u1 : (y2 == 0) = true := by simpa using hz
                have HLN : Hid (∀ x ∈ ys ++ [-((l : Int) + 1)], x ≠ 0 ∧ 1 - (S : Int) ≤ x ∧ x ≤ (S : Int) - 1) := Lib.hid fun x hx => by
                  rcases List.mem_append.1 hx with hx | hx
                  · exact hL.out x hx
                  · simp at hx; subst hx; omega
                clear hz
                have s3 := HW3.out; have s4 := HW4.out; have s4' := HW4'.out
                go_wp2_with (at_builtin; refine app1 rfl rfl ho2 rfl rfl hnw hx2s ?_; intro g' cc w8 hO8 hg8 hs8 hb8; have kB8 := kB2.below hb8 hvlt; have lB8 := kB8.two)
                clear s3 s4 s4'
                have kB9 := kB8.set 1 (.slice (some ⟨g', 0, none⟩) (nw + 1) cc)
                have hO9 := hO8.setlo (p := ⟨v2.heap.size, 1, none⟩) (by show v2.heap.size < v2.heap.size + 1; omega) (.slice (some ⟨g', 0, none⟩) (nw + 1) cc)
                have hd9 := dic_setne (dic_keep hd2 hb8 (by omega)) (p := ⟨v2.heap.size, 1, none⟩) (by show bd < v2.heap.size; omega) (.slice (some ⟨g', 0, none⟩) (nw + 1) cc)
                have hB9 := below_setne (a := ⟨v2.heap.size, 1, none⟩) (hB7.trans (hb8.mono (by omega))) (by show V.heap.size ≤ v2.heap.size; omega) (.slice (some ⟨g', 0, none⟩) (nw + 1) cc)
                have s4 := HW4.out; have s4' := HW4'.out
                go_roundw
                case rel => exact ⟨kk - 1, nw + 1, _, _, _, by go_num, by omega, kB9, hO9, hd9, hB9, HLN⟩
                case measure => simp [intOf]; omega
              · have u1 : (y2 == 0) = false := by simpa using hz
                have HLN : Hid (∀ x ∈ ys ++ [(l : Int) + 1], x ≠ 0 ∧ 1 - (S : Int) ≤ x ∧ x ≤ (S : Int) - 1) := Lib.hid fun x hx => by
                  rcases List.mem_append.1 hx with hx | hx
                  · exact hL.out x hx
                  · simp at hx; subst hx; omega
                clear hz
                have s3 := HW3.out; have s4 := HW4.out; have s4' := HW4'.out
                go_wp2_with (at_builtin; refine app1 rfl rfl ho2 rfl rfl hnw hx2s ?_; intro g' cc w8 hO8 hg8 hs8 hb8; have kB8 := kB2.below hb8 hvlt; have lB8 := kB8.two)
                clear s3 s4 s4'
                have kB9 := kB8.set 1 (.slice (some ⟨g', 0, none⟩) (nw + 1) cc)
                have hO9 := hO8.setlo (p := ⟨v2.heap.size, 1, none⟩) (by show v2.heap.size < v2.heap.size + 1; omega) (.slice (some ⟨g', 0, none⟩) (nw + 1) cc)
                have hd9 := dic_setne (dic_keep hd2 hb8 (by omega)) (p := ⟨v2.heap.size, 1, none⟩) (by show bd < v2.heap.size; omega) (.slice (some ⟨g', 0, none⟩) (nw + 1) cc)
                have hB9 := below_setne (a := ⟨v2.heap.size, 1, none⟩) (hB7.trans (hb8.mono (by omega))) (by show V.heap.size ≤ v2.heap.size; omega) (.slice (some ⟨g', 0, none⟩) (nw + 1) cc)
                have s4 := HW4.out; have s4' := HW4'.out
                go_roundw
                case rel => exact ⟨kk - 1, nw + 1, _, _, _, by go_num, by omega, kB9, hO9, hd9, hB9, HLN⟩
                case measure => simp [intOf]; omega
            · obtain rfl : kk = 0 := by omega
              have hg0 : decide ((0 : Int) < ((0 : Nat) : Int)) = false := by simp
              have hyl : ys.length = nw := ho.len.symm
              obtain ⟨LL, hcf, hl1, hl2⟩ := top_cnt (ys := ys) HSO.out.1 HSL.out.1.len HZZ.out.1 HZZ.out.2 hS23 (by omega) hL.out
              have hcc := cnt_carried HSO.out.1 (by have hd := HSO.out.2; unfold ndF at hd; rw [Bool.and_eq_true] at hd; exact hd.1) (S : Int) ys
              rw [HSL.out.1.len, hcf] at hcc
              obtain ⟨N, HN⟩ : ∃ N, Hid (LL.length = N) := ⟨_, Lib.hid rfl⟩
              have hc1 : (colsF (twF n) (twG n LA RH) (S : Int) ys).1.length = N := hcc.1.trans HN.out
              have hc2 : (colsF (twF n) (twG n LA RH) (S : Int) ys).2 = 0 := hcc.2
              rw [HN.out] at hl1 hl2
              have HI : Hid (I64s ys) := Lib.hid fun x hx => by have := hL.out x hx; exact ⟨by omega, by omega⟩
              have HC1 : Hid (∀ w, Tbl w a1 n LA → Tbl w a2 n RH → Row w aw nw ys → Calls Tryz.prog 23 #[sAgg a1 n c1 a2 n c2, bAgg S aw nw cw] w (RetI w (N : Int) 0)) := Lib.hid fun w h1 h2 hr => by
                have := impl_Cnt_l a1 n c1 LA a2 n c2 RH (S : Int) aw nw cw ys w ⟨h1, h2⟩ ⟨by omega, by omega⟩ ⟨by omega, by omega⟩ hr (by omega) HI.out
                rw [hcf] at this; rw [← HN.out]; exact this
              have HC2 : Hid (∀ (w : World) (b1 b2 : Option Addr) (d1 d2 : Nat), Tbl w b1 n (twF n) → Tbl w b2 n (twG n LA RH) → Row w aw nw ys → Calls Tryz.prog 23 #[sAgg b1 n d1 b2 n d2, bAgg S aw nw cw] w (RetI w (N : Int) 0)) := Lib.hid fun w b1 b2 d1 d2 h1 h2 hr => by
                have := impl_Cnt_l b1 n d1 (twF n) b2 n d2 (twG n LA RH) (S : Int) aw nw cw ys w ⟨h1, h2⟩ ⟨by omega, by omega⟩ ⟨by omega, by omega⟩ hr (by omega) HI.out
                rw [hc1, hc2] at this; exact this
              clear hcf hcc hc1 hc2 hyl
              replace tF := tF.below hB5
              replace kb := kb.below hB5 kb.lt
              replace tL := tL.below hB5
              replace tR := tR.below hB5
              replace ks := ks.below hB5 ks.lt
              replace tD := tD.below hB5
              replace kr := kr.below hB5 kr.lt
              replace hB := below_th hB hB5
              have hrw := hrow.below hB5
              have lkr := kr.one
              go_wp2_with fail
              refine (TwistedU_any n a5 au c5 cu (drL n LA RH) _ tD hrw HRK.out).mono ?_
              rintro e y1 ⟨a20, c20, vs20, a21, c21, vs21, rfl, hoT, hy1⟩
              have tT := hoT.f.tbl
              have tT2 := hoT.s.tbl
              rw [twG_trn] at tT2
              replace tL := tL.below hy1; replace tR := tR.below hy1; replace ks := ks.below hy1 ks.lt; replace kB := kB.below hy1 kB.lt; replace ho := ho.below hy1
              replace hB := below_th hB hy1
              obtain ⟨y2, hv⟩ : ∃ v, y1.alloc (.cells #[.slice a20 n c20, .slice a21 n c21] 29) = v := ⟨_, rfl⟩
              have kW : Loc y2 y1.heap.size #[.slice a20 n c20, .slice a21 n c21] 29 := by rw [← hv]; exact Loc.new y1 rfl _ _
              have hy2 : Below y1.heap.size y1 y2 := by rw [← hv]; exact below_al (Below.refl _ _) _
              have HV := Lib.hid hv
              replace tL := tL.below hy2; replace tR := tR.below hy2; replace tT := tT.below hy2; replace tT2 := tT2.below hy2; replace ks := ks.below hy2 ks.lt; replace kB := kB.below hy2 kB.lt; replace ho := ho.below hy2
              replace hB := below_th hB hy2
              clear lkr lB hoT
              have lks := ks.two
              have lB := kB.two
              go_wp2_with fail
              try rw [HV.out]
              refine (HC1.out _ tL tR ho.row).mono ?_
              rintro e y3 ⟨rfl, hy3⟩
              replace tT := tT.below hy3; replace tT2 := tT2.below hy3; replace kW := kW.below hy3 kW.lt; replace kB := kB.below hy3 kB.lt; replace ho := ho.below hy3
              replace hB := below_th hB hy3
              clear lks lB
              have lW := kW.two
              have lB := kB.two
              go_wp2_with fail
              refine (HC2.out _ _ _ _ _ tT tT2 ho.row).mono ?_
              rintro e y4 ⟨rfl, hy4⟩
              have u5 : ((N : Int) == (N : Int)) = true := by simp
              have u6 : decide ((0 : Int) < (N : Int)) = true := by simp; omega
              go_wp2
              go_ret
              exact ⟨ret_bool (decide_eq_true hl1), below_th hB hy4⟩
end Go.Proofs.YtiliimkfobfbnaaGreat
