/-
  The walk of the law of weight bases: it answers true.
  No condition.
-/
import Derived.Test.YtnlgmhckjpifiaaGreatWbQ
import Derived.Test.YtnlgmhckjpifiaaGreatDrWb
import Derived.Test.YtnlgmhckjpifiaaGreatWbI
import Derived.Test.YtnlgmhckjpifiaaGreatWbS
import Derived.Test.YtnlgmhckjpifiaaGreatLaw5
import Derived.Test.YtnlgmhckjpifiaaGreatLnkS
import Derived.Deep.DeepCutAuto
namespace Go.Proofs.YtnlgmhckjpifiaaGreat
set_option maxRecDepth 100000
set_option linter.unusedVariables false
set_option linter.unusedSimpArgs false
open Go.RowKit

set_option maxHeartbeats 64000000 in
theorem law_Wbs (a : Option Addr) (n c : Nat) (xs : List Int) (w : World) (h : Bts w a n xs) (hn : n ≤ 9223372036854775807) :
    Calls Tryz.prog 5 #[.slice a n c] w fun e w' => e = .returned (.bool true) ∧ Below w.heap.size w w' := by
  have hB : Below w.heap.size w w := Below.refl _ _
  go_enter Tryz.func5, Tryz.ntmps5
  go_wp2_with fail
  refine (big_any a n c _ hn).mono ?_
  rintro e w0 ⟨rfl, rfl⟩
  by_cases hbig : 4096 < n
  · have hd : decide (4096 < n) = true := by simpa using hbig
    rw [hd]
    go_wp2
    go_ret
    exact ⟨rfl, Below.refl _ _⟩
  have hd : decide (4096 < n) = false := by simpa using hbig
  rw [hd]
  clear hd hbig
  go_wp2_with fail
  refine (DrawWeightBasis_ok a n c xs _ (h.below hB) hn).mono ?_
  rintro e w1 ⟨a1, n1, c1, vs1, f, a2, n2, c2, vs2, g, p, rfl, hn1, hn2, hp1, hp2, hof, hos, hbw1⟩
  replace hB := below_th hB hbw1
  have hlF : f.length = n1 := hof.len.symm
  have HLF := Lib.hid hlF
  clear hlF
  rcases wbs_facts f g p with ⟨B, K, hBK, hK⟩ | ⟨B, hBK, hsol, hpr, h8, hBL⟩
  ·
    
      rcases hK with rfl | rfl | rfl
      all_goals as_aux_lemma =>
        obtain ⟨K0, hK0, hK1⟩ : ∃ K0 : Int, wbF f g p = (B, K0) ∧ (K0 != 0) = true := ⟨_, hBK, by decide⟩
        clear hBK
        have hBK := hK0
        clear hK0
        have HBI : Hid (∀ v : World, Tbl v a1 n1 f → Tbl v a2 n2 g → Calls Tryz.prog 29 #[sAgg a1 n1 c1 a2 n2 c2, .int .i64 p] v (RetT v B (K0))) := Lib.hid fun v h1 h2 => by have := impl_Wb_l a1 n1 c1 f a2 n2 c2 g p v ⟨h1, h2⟩ ⟨by omega, by omega⟩ ⟨by omega, by omega⟩; rw [hBK] at this; exact this
        have HBS : Hid (∀ v : World, Tbl v a1 n1 f → Tbl v a2 n2 g → Calls Tryz.prog 30 #[sAgg a1 n1 c1 a2 n2 c2, .int .i64 p] v (RetT v B (K0))) := Lib.hid fun v h1 h2 => by have := spec_Wb_l a1 n1 c1 f a2 n2 c2 g p v ⟨h1, h2⟩ ⟨by omega, by omega⟩ ⟨by omega, by omega⟩; rw [hBK] at this; exact this
        have ukk : (((K0) : Int) != (K0)) = false := by simp
        have HBK := Lib.hid hBK
        clear hBK
        have m3 := (Loc.new w1 rfl #[.slice a1 n1 c1, .slice a2 n2 c2] 29).two
        go_wp2_with fail
        refine (HBI.out _ (hof.alloc (.cells #[.slice a1 n1 c1, .slice a2 n2 c2] 29)).tbl (hos.alloc (.cells #[.slice a1 n1 c1, .slice a2 n2 c2] 29)).tbl).mono ?_
        rintro e w2 ⟨b1, m1, d1, us1, rfl, hoB, hbw2⟩
        clear m3
        have hL3 := (Loc.new w1 rfl #[.slice a1 n1 c1, .slice a2 n2 c2] 29).below hbw2 (Loc.new w1 rfl #[.slice a1 n1 c1, .slice a2 n2 c2] 29).lt
        have l3 := hL3.two
        replace hof := (hof.alloc (.cells #[.slice a1 n1 c1, .slice a2 n2 c2] 29)).below hbw2
        replace hos := (hos.alloc (.cells #[.slice a1 n1 c1, .slice a2 n2 c2] 29)).below hbw2
        replace hB := below_th (below_al hB (.cells #[.slice a1 n1 c1, .slice a2 n2 c2] 29)) hbw2
        go_wp2_with fail
        refine (HBS.out _ hof.tbl hos.tbl).mono ?_
        rintro e w3 ⟨b2, m2, d2, us2, rfl, hoW, hbw3⟩
        replace hL3 := hL3.below hbw3 hL3.lt
        replace l3 := hL3.two
        replace hof := hof.below hbw3
        replace hos := hos.below hbw3
        replace hoB := hoB.below hbw3
        replace hB := below_th hB hbw3
        go_wp2_with fail
        refine (likeRows5_same _ _ _ _ _ _ B _ hoB.tbl hoW.tbl (by have := hoB.cap; omega)).mono ?_
        rintro e w4 ⟨rfl, hbw4⟩
        replace hL3 := hL3.below hbw4 hL3.lt
        replace l3 := hL3.two
        replace hof := hof.below hbw4
        replace hos := hos.below hbw4
        replace hoB := hoB.below hbw4
        replace hoW := hoW.below hbw4
        replace hB := below_th hB hbw4
        go_wp2
        go_ret
        exact ⟨rfl, hB⟩
  · as_aux_lemma =>
      have HBI : Hid (∀ v : World, Tbl v a1 n1 f → Tbl v a2 n2 g → Calls Tryz.prog 29 #[sAgg a1 n1 c1 a2 n2 c2, .int .i64 p] v (RetT v B 0)) := Lib.hid fun v h1 h2 => by have := impl_Wb_l a1 n1 c1 f a2 n2 c2 g p v ⟨h1, h2⟩ ⟨by omega, by omega⟩ ⟨by omega, by omega⟩; rw [hBK] at this; exact this
      have HBS : Hid (∀ v : World, Tbl v a1 n1 f → Tbl v a2 n2 g → Calls Tryz.prog 30 #[sAgg a1 n1 c1 a2 n2 c2, .int .i64 p] v (RetT v B 0)) := Lib.hid fun v h1 h2 => by have := spec_Wb_l a1 n1 c1 f a2 n2 c2 g p v ⟨h1, h2⟩ ⟨by omega, by omega⟩ ⟨by omega, by omega⟩; rw [hBK] at this; exact this
      have ukk : ((0 : Int) != 0) = false := by simp
      have HBK := Lib.hid hBK
      clear hBK
      have m3 := (Loc.new w1 rfl #[.slice a1 n1 c1, .slice a2 n2 c2] 29).two
      go_wp2_with fail
      refine (HBI.out _ (hof.alloc (.cells #[.slice a1 n1 c1, .slice a2 n2 c2] 29)).tbl (hos.alloc (.cells #[.slice a1 n1 c1, .slice a2 n2 c2] 29)).tbl).mono ?_
      rintro e w2 ⟨b1, m1, d1, us1, rfl, hoB, hbw2⟩
      clear m3
      have hL3 := (Loc.new w1 rfl #[.slice a1 n1 c1, .slice a2 n2 c2] 29).below hbw2 (Loc.new w1 rfl #[.slice a1 n1 c1, .slice a2 n2 c2] 29).lt
      have l3 := hL3.two
      replace hof := (hof.alloc (.cells #[.slice a1 n1 c1, .slice a2 n2 c2] 29)).below hbw2
      replace hos := (hos.alloc (.cells #[.slice a1 n1 c1, .slice a2 n2 c2] 29)).below hbw2
      replace hB := below_th (below_al hB (.cells #[.slice a1 n1 c1, .slice a2 n2 c2] 29)) hbw2
      go_wp2_with fail
      refine (HBS.out _ hof.tbl hos.tbl).mono ?_
      rintro e w3 ⟨b2, m2, d2, us2, rfl, hoW, hbw3⟩
      replace hL3 := hL3.below hbw3 hL3.lt
      replace l3 := hL3.two
      replace hof := hof.below hbw3
      replace hos := hos.below hbw3
      replace hoB := hoB.below hbw3
      replace hB := below_th hB hbw3
      go_wp2_with fail
      refine (likeRows5_same _ _ _ _ _ _ B _ hoB.tbl hoW.tbl (by have := hoB.cap; omega)).mono ?_
      rintro e w4 ⟨rfl, hbw4⟩
      replace hL3 := hL3.below hbw4 hL3.lt
      replace l3 := hL3.two
      replace hof := hof.below hbw4
      replace hos := hos.below hbw4
      replace hoB := hoB.below hbw4
      replace hoW := hoW.below hbw4
      replace hB := below_th hB hbw4
      obtain ⟨P, rfl⟩ : ∃ P : Nat, p = P := ⟨p.toNat, by unfold isPr at hpr; omega⟩
      have hP : 2 ≤ P ∧ P ≤ 7 := by unfold isPr at hpr; omega
      obtain ⟨hF1, hF2, sf, sg⟩ := isSol_sq hsol
      rw [HLF.out] at hF1 hF2 h8 sf sg hBL
      obtain ⟨N, hN⟩ : ∃ N, n1 * n1 = N := ⟨_, rfl⟩
      have hN64 : N ≤ 64 := by rw [← hN]; exact Nat.mul_le_mul h8 h8
      have hN1 : 1 ≤ N := by rw [← hN]; exact Nat.mul_le_mul hF1 hF1
      have hcN : (n1 : Int) * (n1 : Int) = (N : Int) := by rw [← hN]; simp
      have hwN : IntKind.i64.wrap ((n1 : Int) * (n1 : Int)) = (N : Int) := by rw [hcN]; exact IntWalk.i64_in _ (by omega)
      have HROW : Hid (∀ b, b ∈ B → Vec P N b ∧ ldN b < N ∧ gv b (ldN b) = 1) := Lib.hid fun b hb => by rw [hBL] at hb; have := wb_row hsol hpr (b := b) (by rw [HLF.out]; exact hb); rw [HLF.out, hN] at this; exact this
      have hm64 : m1 ≤ 64 := by have e1 := hoB.len; have e2 : B.length ≤ N := (by rw [hBL, ← hN]; exact ech_len _ _ _ _); omega
      have HN := Lib.hid hN; have HCN := Lib.hid hcN; have HBL := Lib.hid hBL; have HSOL := Lib.hid hsol; have HPR := Lib.hid hpr
      clear hBL hsol hpr hN hcN hp1 hp2 sf sg HBI HBS
      have HISW : Hid (∀ (v : World) (T : List Int) (am : Option Addr) (cm : Nat), Tbl v a1 n1 f → Tbl v a2 n2 g → Tbl v am n1 (chL n1 T) → Calls Tryz.prog 27 #[sAgg a1 n1 c1 a2 n2 c2, .int .i64 P, .slice am n1 cm] v (RetO v (iswF f g P (chL n1 T)).1 (iswF f g P (chL n1 T)).2)) := Lib.hid fun v T am cm h1 h2 h3 => impl_Isw_l a1 n1 c1 f a2 n2 c2 g P am n1 cm (chL n1 T) v ⟨h1, h2⟩ ⟨by omega, by omega⟩ ⟨by omega, by omega⟩ h3 (by omega)
      obtain ⟨nB, hnB⟩ : ∃ nB, nB = w4.heap.size := ⟨_, rfl⟩
      go_wp2_with fail
      refine (roll_ok a n c xs 828 _ (h.below hB) hn).mono ?_
      rintro e w5 ⟨bd, rfl, hbd, hodc, hbw5⟩
      have hQ : Below w4.heap.size w4 w5 := hbw5
      go_wp2_with (at_make; refine make1 rfl rfl rfl rfl (by omega) ?_; intro wm hoT hsm hbm)
      have hQm := below_th hQ hbm
      have hdm := hodc.below hbm
      have hbdl := hodc.lt
      obtain ⟨hV0, hG0⟩ := gen_rep (p := (P : Int)) (N := N) (B := B) (by omega)
      have H0 := Lib.hid (And.intro hV0 hG0)
      have hzq := hQm.size
      have hzb : w4.heap.size ≤ bd ∧ bd < w5.heap.size ∧ w5.heap.size < wm.heap.size := by omega
      clear hQ hbm hodc hV0 hG0
      go_loopw [12] (fun i wr => ∃ (k : Nat) (T : List Int), k ≤ m1 ∧ i = .int .i64 k ∧ Hid (Vec P N T ∧ Gen P N B (gv T)) ∧ Own wr w5.heap.size (some ⟨w5.heap.size, 0, none⟩) N N T ∧ Dic wr bd ∧ Below w4.heap.size w4 wr ∧ wm.heap.size ≤ wr.heap.size) (fun i _ => m1 - (intOf i).toNat)
      case atStart => exact ⟨0, _, Nat.zero_le _, rfl, H0, hoT.mono (by omega), hdm, hQm, Nat.le_refl _⟩
      case round =>
        clear hoT hdm hQm H0
        obtain ⟨k, T, hk, rfl, HT, hoT, hdm, hQm, hzm⟩ := hrel
        obtain ⟨V, rfl⟩ : ∃ V : World, V = wr := ⟨_, rfl⟩
        by_cases hlt : k < m1
        · go_wp2_with fail
          refine (below_ok bd (P : Int) _ hdm ⟨by omega, by omega⟩).mono ?_
          rintro e w7 ⟨z, rfl, _, hz, hd7, hg7⟩
          obtain ⟨hz1, hz2⟩ := hz (by omega)
          have hT7 := hoT.grown hg7 (fun g e => by cases e; simp; omega)
          have hz7 := hg7.size
          have hQ7 := hQm.grown hg7 (by omega) (fun q hq => by cases hq; omega)
          have hkB : k < B.length := by have := hoB.len; omega
          obtain ⟨_, _, ar, nr, cr, er, hrl, gr, hrr, _⟩ := hoB.tbl.2 k hlt
          have hVb : Vec P N (B.getD k []) := (HROW.out _ (by rw [List.getD_eq_getElem?_getD, List.getElem?_eq_getElem hkB]; exact List.getElem_mem hkB)).1
          obtain rfl : nr = N := by rw [hrr.len]; exact hVb.1
          obtain ⟨bb, hbb⟩ : ∃ bb, B.getD k [] = bb := ⟨_, rfl⟩
          have HBB := Lib.hid hbb
          rw [hbb] at hrr hVb
          have HVB := Lib.hid hVb
          subst er
          clear hbb hVb hoT hdm hQm hg7 hz
          have hk0 : (0 : Int) ≤ (k : Int) := by omega
          have hk1 : (k : Int) < (m1 : Int) := by omega
          have hTl : T.length = nr := HT.out.1.1
          have HTL := Lib.hid hTl
          clear hTl
          go_wp2
          go_loopw [14] (fun i wr => ∃ (j : Nat), j ≤ nr ∧ i = .int .i64 j ∧ Own wr w5.heap.size (some ⟨w5.heap.size, 0, none⟩) nr nr (prgL P z T bb j) ∧ Dic wr bd ∧ Below w4.heap.size w4 wr ∧ V.heap.size ≤ wr.heap.size) (fun i _ => nr - (intOf i).toNat)
          case atStart => exact ⟨0, Nat.zero_le _, rfl, by rw [prgL_zero]; exact hT7, hd7, hQ7, hz7⟩
          case round =>
            clear hT7 hd7 hQ7
            obtain ⟨j, hj, rfl, hT7, hd7, hQ7, hz8⟩ := hrel
            by_cases hjt : j < nr
            · have hj0 : (0 : Int) ≤ (j : Int) := by omega
              have hj1 : (j : Int) < (nr : Int) := by omega
              obtain ⟨bq, oq, rfl, hbq⟩ := hrr.at j hjt
              have hbq' : bq < w4.heap.size := World.block_lt_of_cell? w4 _ hbq
              have g1 := (hQ7.cell (p := ⟨_, _ + k, none⟩) hrl).trans gr
              have g2 := (hQ7.cell (p := ⟨bq, oq + j, none⟩) hbq').trans hbq
              have c1 := hT7.cells.2.1 j hjt
              have f1 := hT7.cells.2.2 j
              have ec : (prgL P z T bb j).getD j 0 = gv T j := prgL_at (by rw [HTL.out]; exact hjt)
              rw [ec] at c1
              have hbj := HVB.out.2 j hjt
              have htj := HT.out.1.2 j hjt
              have hst := prgL_step (p := P) (k := z) (T := T) (b := bb) (j := j) (by rw [HTL.out]; exact hjt)
              have g2 : wr.cell? ⟨bq, oq + j, none⟩ = some (.int .i64 (gv bb j)) := g2
              generalize gv T j = X at *
              generalize gv bb j = Y at *
              have hm := mul_bd hz1 (show z ≤ 7 by omega) hbj.1 (show Y ≤ 7 by omega)
              obtain ⟨Z, hZ⟩ : ∃ Z, (X + z * Y) % (P : Int) = Z := ⟨_, rfl⟩
              have e1 : IntKind.i64.wrap (z * Y) = z * Y := IntWalk.i64_in _ (by omega)
              have e2 : IntKind.i64.wrap (X + z * Y) = X + z * Y := IntWalk.i64_in _ (by omega)
              have e3 : (X + z * Y).tmod (P : Int) = Z := by rw [← hZ]; exact IntWalk.rem_in _ _ (by omega)
              have HV : Hid (Int.tmod (IntKind.i64.wrap (X + IntKind.i64.wrap (z * Y))) (P : Int) = Z) := Lib.hid (by rw [e1, e2, e3])
              rw [hZ] at hst
              have HST := Lib.hid hst
              have p0 : ¬ (P : Int) = 0 := by omega
              have p0b : ((P : Int) == 0) = false := by simpa using p0
              have p0n : ¬ P = 0 := by omega
              have hTs := (hT7.drewN 1).set j Z
              rw [hst] at hTs
              have hds := (hd7.below (below_drewN (Below.refl _ _) 1)).setneD (p := ⟨w5.heap.size, j, none⟩) (by show bd < w5.heap.size; omega) (.int .i64 Z)
              have hQs := below_setne (a := ⟨w5.heap.size, j, none⟩) (below_drewN hQ7 1) (by show w4.heap.size ≤ w5.heap.size; omega) (.int .i64 Z)
              have HTS : Hid (Own ((wr.drewN 1).setCell ⟨w5.heap.size, j, none⟩ (.int .i64 Z)) w5.heap.size (some ⟨w5.heap.size, 0, none⟩) nr nr (prgL P z T bb (j + 1)) ∧ Dic ((wr.drewN 1).setCell ⟨w5.heap.size, j, none⟩ (.int .i64 Z)) bd ∧ Below w4.heap.size w4 ((wr.drewN 1).setCell ⟨w5.heap.size, j, none⟩ (.int .i64 Z))) := Lib.hid ⟨hTs, hds, hQs⟩
              clear hst hZ hm e1 e2 e3 hTs hds hQs hT7 hd7 hQ7 hbq hbj htj ec
              go_wp2
              refine wp_region_still_tail 19 (by kernel_rfl) (by kernel_rfl) ?_
              change wpStill _ _ wr.drew (fun a' => wpList _ _ _ _ a' wr.drew) _ _
              change Hid (Own (wr.drew.setCell ⟨w5.heap.size, j, none⟩ (.int .i64 Z)) w5.heap.size (some ⟨w5.heap.size, 0, none⟩) nr nr (prgL P z T bb (j + 1)) ∧ Dic (wr.drew.setCell ⟨w5.heap.size, j, none⟩ (.int .i64 Z)) bd ∧ Below w4.heap.size w4 (wr.drew.setCell ⟨w5.heap.size, j, none⟩ (.int .i64 Z))) at HTS
              have g11 : wr.drew.cell? _ = _ := g1
              have g21 : wr.drew.cell? _ = _ := g2
              have c11 : wr.drew.cell? _ = _ := c1
              have f11 : wr.drew.frozen? ⟨w5.heap.size, j, none⟩ = false := f1
              have hz81 : V.heap.size ≤ wr.drew.heap.size := hz8
              clear g1 g2 c1 f1 hz8
              generalize wr.drew = w9 at *
              simp only [List.take_succ_cons, List.take_zero, List.drop_succ_cons, List.drop_zero]
              repeat still_step
              refine wpStill_nil ?_
              try rw [HV.out]
              go_wp2
              go_roundw
              case rel => exact ⟨j + 1, by omega, by go_num, HTS.out.1, HTS.out.2.1, HTS.out.2.2, by rw [size_set]; exact hz81⟩
              case measure => simp [intOf]; omega
            · obtain rfl : j = nr := by omega
              have e : prgL P z T bb j = addL P z T bb := by rw [← HTL.out]; exact prgL_full _ _ _ _
              rw [e] at hT7
              have hmem : bb ∈ B := by rw [← HBB.out, List.getD_eq_getElem?_getD, List.getElem?_eq_getElem hkB]; exact List.getElem_mem hkB
              have hgs := gen_step HPR.out HT.out.1 HT.out.2 hmem z
              go_wp2
              go_roundw
              case rel => exact ⟨k + 1, _, by omega, by go_num, Lib.hid hgs, hT7, hd7, hQ7, by omega⟩
              case measure => simp [intOf]; omega
        · obtain rfl : m1 = k := by omega
          have hVT := HT.out.1
          have hGT := HT.out.2
          have hisw : iswF f g P (chL n1 T) = (true, 0) := by
            have := isw_gen HSOL.out HPR.out (T := T) (by rw [HLF.out, HN.out]; exact hVT) (by rw [HLF.out, HN.out, ← HBL.out]; exact hGT)
            rw [HLF.out] at this; exact this
          have HIT : Hid (∀ (v : World) (am : Option Addr) (cm : Nat), Tbl v a1 n1 f → Tbl v a2 n2 g → Tbl v am n1 (chL n1 T) → Calls Tryz.prog 27 #[sAgg a1 n1 c1 a2 n2 c2, .int .i64 P, .slice am n1 cm] v (RetO v true 0)) := Lib.hid fun v am cm h1 h2 h3 => by have := HISW.out v T am cm h1 h2 h3; rw [hisw] at this; exact this
          clear hVT hGT hisw
          have hrT := hoT.row
          have hH0 := Hd.fresh V rfl
          have hW0 := below_al (Below.refl V.heap.size V) (.cells #[] 30)
          go_wp2
          go_loopw [15, 16] (fun z x wr => ∃ (k : Nat) (fa : Option Addr) (fc : Nat), k ≤ n1 ∧ x = .int .i64 k ∧ z = .slice fa k fc ∧ Hd wr V.heap.size fa k fc (cutVs w5.heap.size N n1 k) ∧ Below V.heap.size V wr) (fun _ x _ => n1 - (intOf x).toNat)
          case atStart => exact ⟨0, _, 0, Nat.zero_le _, rfl, rfl, hH0, hW0⟩
          case round =>
            clear hH0 hW0
            obtain ⟨k, fa, fc, hk, rfl, rfl, hH, hW⟩ := hrel
            have hWs := hW.size
            by_cases hlt2 : k < n1
            · have hl1 := rowN hlt2
              obtain ⟨L, hL⟩ : ∃ L, k * n1 = L := ⟨_, rfl⟩
              obtain ⟨L2, hL2⟩ : ∃ L2, (k + 1) * n1 = L2 := ⟨_, rfl⟩
              have hLL : L2 = L + n1 := by rw [← hL2, Nat.add_mul, hL]; omega
              have hcu := cutVs_succ w5.heap.size N n1 k
              unfold cutV at hcu
              rw [hL, HN.out] at hl1
              rw [hL, hL2] at hcu
              have hw1 : IntKind.i64.wrap ((k : Int) * (n1 : Int)) = (L : Int) := by rw [show (k : Int) * (n1 : Int) = (L : Int) by rw [← hL]; simp]; exact IntWalk.i64_in _ (by omega)
              have hw2 : IntKind.i64.wrap ((k : Int) + 1) = (k : Int) + 1 := IntWalk.i64_in _ (by omega)
              have hw3 : IntKind.i64.wrap (((k : Int) + 1) * (n1 : Int)) = (L2 : Int) := by rw [show ((k : Int) + 1) * (n1 : Int) = (L2 : Int) by rw [← hL2]; simp]; exact IntWalk.i64_in _ (by omega)
              have q1 : (0 : Int) ≤ (L : Int) := by omega
              have q2 : (L : Int) ≤ (L2 : Int) := by omega
              have q3 : (L2 : Int) ≤ (N : Int) := by omega
              have q4 : L ≤ L2 := by omega
              have q5 : L2 ≤ N := by omega
              have q6 : ¬ N = L := by omega
              have q7 : ¬ (N : Int) = (L : Int) := by omega
              have HCU := Lib.hid hcu
              clear hcu hL hL2 hLL hl1
              go_wp2_with (at_builtin; refine appH1 rfl rfl hH rfl rfl (by omega) (by omega) ?_; intro g' cc w9 hO9 hg9 hat9 hb9)
              go_roundw
              case rel => exact ⟨k + 1, _, cc, by omega, by go_num, rfl, by rw [HCU.out]; exact hO9, hW.trans hb9⟩
              case measure => simp [intOf]; omega
            · obtain rfl : k = n1 := by omega
              have hTB : Tbl wr fa k (chL k T) := by
                have hr := hrT.below hW
                rw [← HN.out] at hH hr
                exact cut_tbl hH hr (by omega)
              have hQw := below_th hQm hW
              have hBw := below_th hB hQw
              have l3 := (hL3.below hQw hL3.lt).two
              have hd9 := hdm.keepB hW hdm.lt
              clear hH hW hrT hoT hdm
              go_wp2_with fail
              refine (HIT.out _ fa fc (hof.tbl.below hQw) (hos.tbl.below hQw) hTB).mono ?_
              rintro e v1 ⟨rfl, hv1⟩
              have hd10 := hd9.below hv1
              have hQ10 := below_th hQw hv1
              have hb10 := hd10.lt
              clear hd9 hQw hBw hTB l3 hv1
              go_wp2_with fail
              refine (list5_ok bd N (P : Int) _ hd10 ⟨by omega, by omega⟩ (by omega)).mono ?_
              rintro e v2 ⟨ra, rc, R0, rfl, hR1, _, hoR, hd11, hg11⟩
              obtain ⟨rb, rfl⟩ := hoR.headS (by omega)
              have hVR : Vec P N R0 := vec_of hoR.len.symm (hR1 (by omega))
              have HVR := Lib.hid hVR
              have hrb := hoR.lo rb rfl
              have hrbh := hoR.hi rb rfl
              have hQ11 := hQ10.grown hg11 hQ10.size (fun q hq => by cases hq; omega)
              have hz11 := hQ10.size
              clear hQ10 hd10 hg11 hR1 hVR HIT HT
              have hK0 := OwnT.fresh v2 rfl
              have hW0 := below_al (Below.refl v2.heap.size v2) (.cells #[] 30)
              have hrR := hoR.row
              go_wp2
              go_loopw [20, 21] (fun z x wr => ∃ (q : Nat) (ga : Option Addr) (gc : Nat) (vg : List SV), q ≤ k ∧ x = .int .i64 q ∧ z = .slice ga q gc ∧ OwnT wr v2.heap.size ga q gc vg ((chL k R0).take q) ∧ Below v2.heap.size v2 wr) (fun _ x _ => k - (intOf x).toNat)
              case atStart => exact ⟨0, _, 0, [], Nat.zero_le _, rfl, rfl, hK0, hW0⟩
              case round =>
                clear hK0 hW0
                obtain ⟨q, ga, gc, vg, hq, rfl, rfl, hK, hW⟩ := hrel
                have hWs := hW.size
                by_cases hlt3 : q < k
                · have hl1 := rowN hlt3
                  obtain ⟨L, hL⟩ : ∃ L, q * k = L := ⟨_, rfl⟩
                  obtain ⟨L2, hL2⟩ : ∃ L2, (q + 1) * k = L2 := ⟨_, rfl⟩
                  have hLL : L2 - L = k := by rw [← hL2, Nat.add_mul, hL]; omega
                  have hLL2 : L2 = L + k := by rw [← hL2, Nat.add_mul, hL]; omega
                  have hcu := chL_take (R := R0) hlt3
                  rw [hL, HN.out] at hl1
                  rw [hL] at hcu
                  have hw1 : IntKind.i64.wrap ((q : Int) * (k : Int)) = (L : Int) := by rw [show (q : Int) * (k : Int) = (L : Int) by rw [← hL]; simp]; exact IntWalk.i64_in _ (by omega)
                  have hw2 : IntKind.i64.wrap ((q : Int) + 1) = (q : Int) + 1 := IntWalk.i64_in _ (by omega)
                  have hw3 : IntKind.i64.wrap (((q : Int) + 1) * (k : Int)) = (L2 : Int) := by rw [show ((q : Int) + 1) * (k : Int) = (L2 : Int) by rw [← hL2]; simp]; exact IntWalk.i64_in _ (by omega)
                  have q1 : (0 : Int) ≤ (L : Int) := by omega
                  have q2 : (L : Int) ≤ (L2 : Int) := by omega
                  have q3 : (L2 : Int) ≤ (N : Int) := by omega
                  have q4 : L ≤ L2 := by omega
                  have hcR := hoR.cap
                  have q5 : L2 ≤ rc := by omega
                  have q6 : ¬ rc = L := by omega
                  have q7 : ¬ (rc : Int) = (L : Int) := by omega
                  have q8 : (L2 : Int) ≤ (rc : Int) := by omega
                  have hrm := (hrR.below hW).mid2 L (L2 - L) (by omega)
                  have HCU : Hid ((chL k R0).take (q + 1) = (chL k R0).take q ++ [(R0.drop L).take (L2 - L)]) := Lib.hid (by rw [hLL]; exact hcu)
                  have HKH := Lib.hid hK.uHi
                  clear hcu hL hL2 hLL hl1 hLL2
                  go_wp2_with (at_builtin; first
                    | (refine appL rfl rfl (Own.fresh wr rfl) rfl (hrm.alloc _) rfl (by omega) (by simp) ?_; intro ad' c' w9 hO9 hg9 hb9; rw [Nat.zero_add] at hO9 ⊢)
                    | (have hK9 := hK.below ((below_al (Below.refl wr.heap.size wr) (.cells #[] 2)).trans hb9); refine appT1g rfl rfl hK9 rfl (hO9.mono (by omega)) (fun g h1 h2 => by have h3 := HKH.out _ (.inl h1); have h4 := hO9.lo _ h2; omega) (fun i hi g h1 h2 => by have h3 := hO9.lo _ h1; have h4 := HKH.out _ (.inr ⟨i, hi, h2⟩); omega) rfl (by omega) (by have := hb9.size; simp at this; omega) ?_; intro g' cc w10 hO10 hg10 hat10 hb10))
                  go_roundw
                  case rel => exact ⟨q + 1, _, cc, _, by omega, by go_num, rfl, by rw [HCU.out]; exact hO10, (hW.trans (((below_al (Below.refl wr.heap.size wr) (.cells #[] 2)).trans hb9).mono (by omega))).trans hb10⟩
                  case measure => simp [intOf]; omega
                · obtain rfl : q = k := by omega
                  rw [List.take_of_length_le (by rw [chL_len]; exact Nat.le_refl _)] at hK
                  have hQw := below_th hQ11 hW
                  have l3 := (hL3.below hQw hL3.lt).two
                  have hd12 := hd11.keepB hW hd11.lt
                  have hTG := hK.tbl
                  have hoR2 := hoR.below hW
                  obtain ⟨G, hG⟩ : ∃ G, decide (wtFlt q f g (chL q R0) P = []) = G := ⟨_, rfl⟩
                  have hmx := chL_mx (n := q) (p := P) (by omega) (by rw [HN.out]; exact HVR.out)
                  have hisw : iswF f g P (chL q R0) = (G, 0) := by
                    have := isw_of HSOL.out (by rw [HLF.out]; exact hmx)
                    rw [HLF.out, hG] at this; exact this
                  have HIT : Hid (∀ (v : World) (am : Option Addr) (cm : Nat), Tbl v a1 q f → Tbl v a2 n2 g → Tbl v am q (chL q R0) → Calls Tryz.prog 27 #[sAgg a1 q c1 a2 n2 c2, .int .i64 P, .slice am q cm] v (RetO v G 0)) := Lib.hid fun v am cm h1 h2 h3 => by have := HISW.out v R0 am cm h1 h2 h3; rw [hisw] at this; exact this
                  have HGG : Hid ((G == ((takL P B R0).sum == 0)) = true) := Lib.hid (by
                    have := wbs_last (R := R0) HSOL.out HPR.out (by rw [HLF.out, HN.out]; exact HVR.out)
                    rw [HLF.out, hG, ← HBL.out] at this; exact this)
                  clear hG hmx hisw hK hW hrR hoR hd11 hQ11
                  go_wp2_with fail
                  refine (HIT.out _ ga gc (hof.tbl.below hQw) (hos.tbl.below hQw) hTG).mono ?_
                  rintro e v3 ⟨rfl, hv3⟩
                  have hQ3 := below_th hQw hv3
                  have hoR3 := hoR2.below hv3
                  have hz3 := hQ3.size
                  clear hQw hTG l3 hd12 hoR2 hv3 HIT
                  go_wp2
                  go_loopw [24] (fun i wr => ∃ (k : Nat) (R : List Int), k ≤ m1 ∧ i = .int .i64 k ∧ Hid (Vec P N R ∧ R = takL P (B.take k) R0) ∧ Own wr v1.heap.size (some ⟨rb, 0, none⟩) N rc R ∧ Below w4.heap.size w4 wr) (fun i _ => m1 - (intOf i).toNat)
                  case atStart => exact ⟨0, R0, Nat.zero_le _, rfl, Lib.hid ⟨HVR.out, rfl⟩, hoR3, hQ3⟩
                  case round =>
                    clear hoR3 hQ3
                    obtain ⟨k, R, hk, rfl, HR, hoR, hQm⟩ := hrel
                    obtain ⟨V4, rfl⟩ : ∃ V4 : World, V4 = wr := ⟨_, rfl⟩
                    by_cases hlt : k < m1
                    · have hkB : k < B.length := by have := hoB.len; omega
                      obtain ⟨hb0, ho0, ar, nr, cr, er, hrl, gr, hrr, _⟩ := hoB.tbl.2 k hlt
                      obtain ⟨hVb, hld, _⟩ := HROW.out _ (show B.getD k [] ∈ B by rw [List.getD_eq_getElem?_getD, List.getElem?_eq_getElem hkB]; exact List.getElem_mem hkB)
                      obtain rfl : nr = N := by rw [hrr.len]; exact hVb.1
                      have htk := takL_take (p := P) (r := R0) hkB
                      obtain ⟨bb, hbb⟩ : ∃ bb, B.getD k [] = bb := ⟨_, rfl⟩
                      rw [hbb] at hrr hVb hld htk
                      have HVB := Lib.hid hVb
                      have hl0 := ldN_lt (v := bb) (by rw [hVb.1]; exact hld)
                      have HPRE : Hid (∀ i, i < ldN bb → gv bb i = 0) := Lib.hid fun i hi => ldN_pre hi
                      have HTK := Lib.hid htk
                      obtain ⟨D, hD⟩ : ∃ D, ldN bb = D := ⟨_, rfl⟩
                      rw [hD] at hld hl0 HPRE HTK
                      subst er
                      clear hbb hVb htk hD
                      have hk0 : (0 : Int) ≤ (k : Int) := by omega
                      have hk1 : (k : Int) < (m1 : Int) := by omega
                      have hRl : R.length = nr := HR.out.1.1
                      have HRL := Lib.hid hRl
                      clear hRl
                      have g1 := (hQm.cell (p := ⟨hb0, ho0 + k, none⟩) hrl).trans gr
                      go_wp2
                      go_loopw [25] (fun i wr => ∃ (j : Nat), j ≤ D ∧ i = .int .i64 j ∧ wr = V4) (fun i _ => D - (intOf i).toNat)
                      case atStart => exact ⟨0, Nat.zero_le _, rfl, by first | trivial | rfl⟩
                      case round =>
                        obtain ⟨j, hj, rfl, rfl⟩ := hrel
                        have hjn : j < nr := by omega
                        have hj0 : (0 : Int) ≤ (j : Int) := by omega
                        have hj1 : (j : Int) < (nr : Int) := by omega
                        obtain ⟨bq, oq, rfl, hbq⟩ := hrr.at j hjn
                        have hbq' : bq < w4.heap.size := World.block_lt_of_cell? w4 _ hbq
                        have g0 := (hQm.cell (p := ⟨bq, oq + j, none⟩) hbq').trans hbq
                        by_cases hjD : j < D
                        · have ez := HPRE.out j hjD
                          have g2 : wr.cell? ⟨bq, oq + j, none⟩ = some (.int .i64 0) := by rw [← ez]; exact g0
                          clear g0 hbq ez
                          go_wp2
                          go_roundw
                          case rel => exact ⟨j + 1, by omega, by go_num, by first | trivial | rfl⟩
                          case measure => simp [intOf]; omega
                        · obtain rfl : j = D := by omega
                          have g2 : wr.cell? ⟨bq, oq + j, none⟩ = some (.int .i64 (gv bb j)) := g0
                          clear g0 hbq
                          generalize gv bb j = Y0 at *
                          have hY0 : (Y0 == 0) = false := by simpa using hl0
                          have c0 : wr.cell? ⟨rb, j, none⟩ = some (.int .i64 (gv R j)) := hoR.cells.2.1 j hjn
                          have hX0 := HR.out.1.2 j hjn
                          obtain ⟨X0, hX0e⟩ : ∃ X0, gv R j = X0 := ⟨_, rfl⟩
                          rw [hX0e] at c0 hX0
                          have HX0 := Lib.hid hX0e
                          clear hX0e
                          obtain ⟨Kd, hKd⟩ : ∃ Kd, (P : Int) - X0 = Kd := ⟨_, rfl⟩
                          have hKb : 0 ≤ Kd ∧ Kd ≤ 7 := by omega
                          have hwK : IntKind.i64.wrap ((P : Int) - X0) = Kd := by rw [hKd]; exact IntWalk.i64_in _ (by omega)
                          have HKD := Lib.hid hKd
                          clear hKd
                          have hz4 := hQm.size
                          go_wp2
                          go_loopw [27] (fun i wr => ∃ (j : Nat), j ≤ nr ∧ i = .int .i64 j ∧ Own wr v1.heap.size (some ⟨rb, 0, none⟩) nr rc (prgL P Kd R bb j) ∧ Below w4.heap.size w4 wr) (fun i _ => nr - (intOf i).toNat)
                          case atStart => exact ⟨0, Nat.zero_le _, rfl, by rw [prgL_zero]; exact hoR, hQm⟩
                          case round =>
                            clear hoR hQm c0 g1 g2
                            obtain ⟨i, hi, rfl, hoR, hQm⟩ := hrel
                            by_cases hit : i < nr
                            · have hi0 : (0 : Int) ≤ (i : Int) := by omega
                              have hi1 : (i : Int) < (nr : Int) := by omega
                              have hbi : w4.cell? ⟨bq, oq + i, none⟩ = some (.int .i64 (gv bb i)) := by
                                obtain ⟨_, _, e, hc⟩ := hrr.at i hit
                                cases e
                                exact hc
                              have g1 := (hQm.cell (p := ⟨hb0, ho0 + k, none⟩) hrl).trans gr
                              have g2 := (hQm.cell (p := ⟨bq, oq + i, none⟩) hbq').trans hbi
                              have c1 := hoR.cells.2.1 i hit
                              have f1 := hoR.cells.2.2 i
                              have ec : (prgL P Kd R bb i).getD i 0 = gv R i := prgL_at (by rw [HRL.out]; exact hit)
                              rw [ec] at c1
                              have hbj := HVB.out.2 i hit
                              have htj := HR.out.1.2 i hit
                              have hst := prgL_step (p := P) (k := Kd) (T := R) (b := bb) (j := i) (by rw [HRL.out]; exact hit)
                              generalize gv R i = X at *
                              generalize gv bb i = Y at *
                              have hm := mul_bd hKb.1 hKb.2 hbj.1 (show Y ≤ 7 by omega)
                              obtain ⟨Z, hZ⟩ : ∃ Z, (X + Kd * Y) % (P : Int) = Z := ⟨_, rfl⟩
                              have e1 : IntKind.i64.wrap (Kd * Y) = Kd * Y := IntWalk.i64_in _ (by omega)
                              have e2 : IntKind.i64.wrap (X + Kd * Y) = X + Kd * Y := IntWalk.i64_in _ (by omega)
                              have e3 : (X + Kd * Y).tmod (P : Int) = Z := by rw [← hZ]; exact IntWalk.rem_in _ _ (by omega)
                              have HV : Hid (Int.tmod (IntKind.i64.wrap (X + IntKind.i64.wrap (Kd * Y))) (P : Int) = Z) := Lib.hid (by rw [e1, e2, e3])
                              rw [hZ] at hst
                              have p0 : ¬ (P : Int) = 0 := by omega
                              have p0b : ((P : Int) == 0) = false := by simpa using p0
                              have p0n : ¬ P = 0 := by omega
                              have hTs := (hoR.drewN 1).set i Z
                              rw [hst] at hTs
                              have hQs := below_setne (a := ⟨rb, i, none⟩) (below_drewN hQm 1) (by show w4.heap.size ≤ rb; omega) (.int .i64 Z)
                              have HTS : Hid (Own ((wr.drewN 1).setCell ⟨rb, i, none⟩ (.int .i64 Z)) v1.heap.size (some ⟨rb, 0, none⟩) nr rc (prgL P Kd R bb (i + 1)) ∧ Below w4.heap.size w4 ((wr.drewN 1).setCell ⟨rb, i, none⟩ (.int .i64 Z))) := Lib.hid ⟨hTs, hQs⟩
                              clear hst hZ hm e1 e2 e3 hTs hQs hoR hQm hbi hbj htj ec
                              go_wp2
                              refine wp_region_still_tail 21 (by kernel_rfl) (by kernel_rfl) ?_
                              change wpStill _ _ wr.drew (fun a' => wpList _ _ _ _ a' wr.drew) _ _
                              change Hid (Own (wr.drew.setCell ⟨rb, i, none⟩ (.int .i64 Z)) v1.heap.size (some ⟨rb, 0, none⟩) nr rc (prgL P Kd R bb (i + 1)) ∧ Below w4.heap.size w4 (wr.drew.setCell ⟨rb, i, none⟩ (.int .i64 Z))) at HTS
                              have g11 : wr.drew.cell? _ = _ := g1
                              have g21 : wr.drew.cell? _ = _ := g2
                              have c11 : wr.drew.cell? _ = _ := c1
                              have f11 : wr.drew.frozen? ⟨rb, i, none⟩ = false := f1
                              clear g1 g2 c1 f1
                              generalize wr.drew = w9 at *
                              simp only [List.take_succ_cons, List.take_zero, List.drop_succ_cons, List.drop_zero]
                              repeat still_step
                              refine wpStill_nil ?_
                              try rw [hwK]
                              try rw [HV.out]
                              go_wp2
                              go_roundw
                              case rel => exact ⟨i + 1, by omega, by go_num, HTS.out.1, HTS.out.2⟩
                              case measure => simp [intOf]; omega
                            · obtain rfl : i = nr := by omega
                              have e : prgL P Kd R bb i = addL P Kd R bb := by rw [← HRL.out]; exact prgL_full _ _ _ _
                              rw [e] at hoR
                              have hnew : Vec P i (addL P Kd R bb) ∧ addL P Kd R bb = takL P (B.take (k + 1)) R0 := ⟨addL_vec (by omega) HRL.out, by rw [HTK.out, ← HR.out.2, HX0.out, HKD.out]⟩
                              go_wp2
                              go_roundw
                              case rel => exact ⟨k + 1, _, by omega, by go_num, Lib.hid hnew, hoR, hQm⟩
                              case measure => simp [intOf]; omega
                    · obtain rfl : k = m1 := by omega
                      have eR : R = takL P B R0 := by rw [HR.out.2, List.take_of_length_le (by have := hoB.len; omega)]
                      have HLAST : Hid ((G == (R.sum == 0)) = true) := Lib.hid (by rw [eR]; exact HGG.out)
                      have hxx : ∀ x ∈ R, 0 ≤ x ∧ x ≤ 1000000000 := fun x hx => by have := HR.out.1.mem x hx; omega
                      have hrow := hoR.row
                      have hBf := below_th hB hQm
                      clear eR
                      go_wp2_with fail
                      refine (sum_any _ N _ R _ hrow (by omega) hxx).mono ?_
                      rintro e v9 ⟨rfl, rfl⟩
                      go_wp2
                      go_ret
                      exact ⟨ret_bool HLAST.out, hBf⟩
end Go.Proofs.YtnlgmhckjpifiaaGreat
