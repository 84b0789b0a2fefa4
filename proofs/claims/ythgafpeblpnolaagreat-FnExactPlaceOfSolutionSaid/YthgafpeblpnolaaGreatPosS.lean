/-
  PlaceOfSolution: what the reference's computes.
  No condition but bounds.
-/
import Derived.Test.YthgafpeblpnolaaGreatNdI
import Derived.Test.YthgafpeblpnolaaGreatAsl
import Derived.Test.YthgafpeblpnolaaGreatBase3
import Derived.Test.YthgafpeblpnolaaGreatSolF
import Derived.Deep.DeepCutAuto
namespace Go.Proofs.YthgafpeblpnolaaGreat
set_option maxRecDepth 100000
set_option linter.unusedVariables false
set_option linter.unusedSimpArgs false
open Go.RowKit

theorem posF_no {f g : List (List Int)} (h : isSol f g = false) : posF f g = (0, 1) := by unfold posF; rw [h]; rfl
theorem posF_big {f g : List (List Int)} (h : isSol f g = true) (h3 : ¬ f.length ≤ 3) : posF f g = (0, 3) := by unfold posF; rw [h, if_pos rfl, if_neg h3]
theorem posF_deg {f g : List (List Int)} (h : isSol f g = true) (h3 : f.length ≤ 3) (hd : ndF f g = false) : posF f g = (0, 5) := by unfold posF; rw [h, if_pos rfl, if_pos h3, hd]; rfl
theorem posF_in {f g : List (List Int)} (h : isSol f g = true) (h3 : f.length ≤ 3) (hd : ndF f g = true) : posF f g = (((posI (f, g) : Nat) : Int), 0) := by unfold posF; rw [h, if_pos rfl, if_pos h3, hd, if_pos rfl]
theorem TbS.pair {w : World} {b : Nat} (hb : b = w.heap.size) {a a' : Option Addr} {n n' c c' : Nat} {f g : List (List Int)} (h1 : Tbl w a n f) (h2 : Tbl w a' n' g) (hm1 : n ≤ 9223372036854775807) (hm2 : n' ≤ 9223372036854775807) (t : TypeId) :
    TbS (w.alloc (.cells #[.slice a n c, .slice a' n' c'] t)) (some ⟨b, 0, none⟩) 2 [f, g] := by
  have hL := Loc.new w hb #[.slice a n c, .slice a' n' c'] t
  have l := hL.two
  refine ⟨rfl, fun i hi => ?_⟩
  match i, hi with
  | 0, _ => exact ⟨b, 0, a, n, c, rfl, hL.lt, l.1, h1.alloc _, hm1⟩
  | 1, _ => exact ⟨b, 0, a', n', c', rfl, hL.lt, l.2.1, h2.alloc _, hm2⟩
/-- what the two calls leave -/
def PosMade (w w1 : World) (L : List T2) (M : T2) (s4 s5 : Value) (wx : World) : Prop :=
  ∃ a1 k1 c1 a2 c2, s4 = .slice a1 k1 c1 ∧ s5 = .slice a2 2 c2 ∧ SbS wx a1 k1 L ∧ TbS wx a2 2 [M.1, M.2] ∧ k1 ≤ 1000000 ∧ Below w.heap.size w wx

set_option maxHeartbeats 8000000 in
theorem spec_Pos_l (a : Option Addr) (n c : Nat) (f : List (List Int)) (a' : Option Addr) (n' c' : Nat) (g : List (List Int)) (w : World) (h1 : Sol w a n f a' n' g) (hm : n ≤ 9223372036854775807 ∧ n' ≤ 9223372036854775807) :
    Calls Tryz.prog 7 #[sAgg a n c a' n' c'] w (RetI w (posF f g).1 (posF f g).2) := by
  have hA := Loc.new w rfl #[.slice a n c, .slice a' n' c'] 28
  have hB := below_al (Below.refl w.heap.size w) (.cells #[.slice a n c, .slice a' n' c'] 28)
  have f1' := h1.f.alloc (.cells #[.slice a n c, .slice a' n' c'] 28)
  have g1' := h1.s.alloc (.cells #[.slice a n c, .slice a' n' c'] 28)
  obtain ⟨hm1, hm2⟩ := hm
  have HN := Lib.hid h1.f.len
  have hNG := h1.s.len
  have lA := hA.two
  cases hk : isSol f g with
  | false =>
    rw [posF_no hk]
    have HK := Lib.hid hk; clear hk hNG
    go_enter Tryz.func7, Tryz.ntmps7
    go_wp2_with fail
    refine (l02Is_any _ _ _ _ _ _ f g _ f1' g1' hm1 hm2).mono ?_
    rintro e w1 ⟨rfl, hb1⟩
    rw [HK.out]
    go_wp2
    go_ret2
    exact ⟨rfl, below_th hB hb1⟩
  | true =>
    obtain ⟨n1, n12, sf, sg⟩ := isSol_sq hk
    rw [← HN.out] at n1 n12 sf sg
    obtain rfl : n = n' := by have := sg.len; omega
    have HSF := Lib.hid sf; have HSG := Lib.hid sg
    have HK := Lib.hid hk
    clear hNG
    by_cases h3 : n ≤ 3
    · cases hd : ndF f g with
      | false =>
        rw [posF_deg hk (by rw [← HN.out]; exact h3) hd]
        have HD := Lib.hid hd
        clear hk sf sg hd
        have hgt : ¬ (3 : Int) < (n : Int) := by omega
        go_enter Tryz.func7, Tryz.ntmps7
        go_wp2_with fail
        refine (l02Is_any _ _ _ _ _ _ f g _ f1' g1' hm1 hm2).mono ?_
        rintro e w1 ⟨rfl, hb1⟩
        rw [HK.out]
        have lA1 := (hA.below hb1 hA.lt).two
        go_wp2_with fail
        refine (l06Plain_any n _ _ _ _ f g _ (f1'.below hb1) (g1'.below hb1) HSF.out HSG.out n1 n12).mono ?_
        rintro e w2 ⟨rfl, hb2⟩
        rw [HD.out]
        go_wp2
        go_ret2
        exact ⟨rfl, below_th (below_th hB hb1) hb2⟩
      | true =>
        rw [posF_in hk (by rw [← HN.out]; exact h3) hd]
        obtain ⟨k0, hk0, ek0⟩ := pos_some hk (by rw [← HN.out]; exact h3) hd
        have HI := Lib.hid (fun k hk => posI_of (s := (f, g)) (k := k) hk)
        rw [← HN.out] at hk0 ek0
        obtain ⟨L, HL⟩ : ∃ L, Hid (slrL n = L) := ⟨_, Lib.hid rfl⟩
        obtain ⟨M, HM⟩ : ∃ M, Hid (lesL n (f, g) = M) := ⟨_, Lib.hid rfl⟩
        have HI2 : Hid (∀ k, k < L.length → L.getD k t2O = M → (∀ j, j < k → L.getD j t2O ≠ M) → posI (f, g) = k) := Lib.hid (by rw [← HL.out, ← HM.out, HN.out]; exact HI.out)
        clear HI
        rw [HL.out] at hk0 ek0
        rw [HM.out] at ek0
        have HLS : Hid (leaS n [f, g] = [M.1, M.2]) := Lib.hid (by
          have := lea_two (n := n) (s := (f, g)) sf.len sg.len
          rw [HM.out] at this
          exact this)
        have HLB : Hid (L.length ≤ 1000000) := Lib.hid (by rw [← HL.out]; exact slrL_bd n1 h3)
        have HD := Lib.hid hd
        have HK0 := Lib.hid (And.intro hk0 ek0)
        obtain ⟨R, HR⟩ : ∃ R : Nat, Hid (posI (f, g) = R) := ⟨_, Lib.hid rfl⟩
        rw [HR.out] at HI2
        rw [HR.out]
        clear hk sf sg hd hk0 ek0
        have hgt : ¬ (3 : Int) < (n : Int) := by omega
        go_enter Tryz.func7, Tryz.ntmps7
        go_wp2_with fail
        refine (l02Is_any _ _ _ _ _ _ f g _ f1' g1' hm1 hm2).mono ?_
        rintro e w0 ⟨rfl, hb0⟩
        rw [HK.out]
        have hA0 := hA.below hb0 hA.lt
        have lA0 := hA0.two
        have f0 := f1'.below hb0
        have g0 := g1'.below hb0
        have hB0 := below_th hB hb0
        clear hA hB f1' g1' lA
        go_wp2_with fail
        refine (l06Plain_any n _ _ _ _ f g _ f0 g0 HSF.out HSG.out n1 n12).mono ?_
        rintro e w1 ⟨rfl, hb1⟩
        rw [HD.out]
        have hA1 := hA0.below hb1 hA0.lt
        have lA1 := hA1.two
        have hB1 := below_th hB0 hb1
        have hlt1 := hA1.lt
        have ff1 := f0.below hb1
        have gg1 := g0.below hb1
        clear hA0 hB0 f0 g0 lA0 hb0 hb1
        go_upto_region 7 with fail
        go_cut [4, 5] (fun s4 s5 wx => PosMade w w1 L M s4 s5 wx)
        case first =>
          have tok1 : True := trivial
          have HSS : Hid (∀ k, k < 2 → Sq n (([f, g] : List (List (List Int))).getD k [])) := Lib.hid fun k hk => by
            match k, hk with
            | 0, _ => exact HSF.out
            | 1, _ => exact HSG.out
          go_region_held3 (fun w' => w'.cell? ⟨w.heap.size, 0, none⟩ = some (.slice a n c) ∧ w'.cell? ⟨w.heap.size, 1, none⟩ = some (.slice a' n c'))
            (first | exact ⟨lD.1, lD.2.1⟩ | exact ⟨lC.1, lC.2.1⟩ | exact ⟨lB'.1, lB'.2.1⟩ | exact ⟨lB.1, lB.2.1⟩ | exact ⟨lA1.1, lA1.2.1⟩ | go_keep)
            (first
              | (go_at_call 42; have _t := tok1; refine (l19Sorted_any n _ n1 h3).mono ?_; rintro e w2 ⟨a2, k2, c2, us2, rfl, ho2, hb2⟩; clear _t tok1; have tok2 : True := trivial; have hq2 : Below w1.heap.size w1 w2 := below_th (below_drewN (Below.refl _ _) 1) hb2; have hA2 := hA1.below hq2 hlt1; have lB := hA2.two; have lB' := (hA2.alloc (.cells #[.slice a n c, .slice a' n c'] 22)).two)
              | (go_at_call 42; have _t := tok1; refine (l19Sorted_any n _ n1 h3).mono ?_; rintro e w2 ⟨a2, k2, c2, us2, rfl, ho2, hb2⟩; clear _t tok1; have tok3 : True := trivial; have hq2 : Below w1.heap.size w1 w2 := below_alth (below_drewN (Below.refl _ _) 1) hb2; have hL2 : TbS w2 (some ⟨w1.heap.size, 0, none⟩) 2 [f, g] := (TbS.pair rfl (ff1.drewN 1) (gg1.drewN 1) hm1 hm2 _).below hb2; have hA2 := hA1.below hq2 hlt1; have lB := hA2.two)
              | (go_at_call 43; have _t := tok2; refine (l03Least_any n 2 (some ⟨w2.heap.size, 0, none⟩) 2 [f, g] _ (TbS.pair rfl (ff1.below hq2) (gg1.below hq2) hm1 hm2 _) n1 (by omega) (by omega) (by omega) HSS.out).mono ?_; rintro e w3 ⟨a3, c3, us3, rfl, ho3, hb3⟩; clear _t tok2; have hq3 : Below w2.heap.size w2 w3 := below_alth (Below.refl _ _) hb3; have lC := (hA2.below hq3 hA2.lt).two)
              | (go_at_call 43; have _t := tok3; refine (l03Least_any n 2 (some ⟨w1.heap.size, 0, none⟩) 2 [f, g] _ hL2 n1 (by omega) (by omega) (by omega) HSS.out).mono ?_; rintro e w3 ⟨a3, c3, us3, rfl, ho3, hb3⟩; clear _t tok3; have hq3 : Below w2.heap.size w2 w3 := hb3; have lC := (hA2.below hq3 hA2.lt).two))
          all_goals (rw [HL.out] at ho2; rw [HLS.out] at ho3; go_wp2_with fail; go_meet; exact ⟨a2, k2, c2, a3, c3, rfl, rfl, ho2.sbS.below hq3, ho3.tbS, by have := ho2.len; have := HLB.out; omega, hB1.trans ((hq2.mono hB1.size).trans (hq3.mono (Nat.le_trans hB1.size hq2.size)))⟩)
        case rest =>
          obtain ⟨a1, N, c1, a2, c2, rfl, rfl, tL, tM, hN1, hB2⟩ := hcut
          have HNL := Lib.hid tL.len
          go_wp2
          go_loopw [6] (fun i wr => ∃ k : Nat, k ≤ N ∧ i = .int .i64 k ∧ Hid (∀ j, j < k → L.getD j t2O ≠ M) ∧ Hid (∃ m, wr = wc.drewN m)) (fun i _ => N - (intOf i).toNat)
          case atStart => exact ⟨0, Nat.zero_le _, rfl, Lib.hid fun j hj => absurd hj (by omega), Lib.hid ⟨0, rfl⟩⟩
          case round =>
            obtain ⟨k, hk, rfl, HT, HW⟩ := hrel
            by_cases hlt : k < N
            · have tLr : SbS wr a1 N L := by obtain ⟨m, hm⟩ := HW.out; rw [hm]; exact tL.drewN m
              have tMr : TbS wr a2 2 [M.1, M.2] := by obtain ⟨m, hm⟩ := HW.out; rw [hm]; exact tM.drewN m
              obtain ⟨b3, a3, n3, c3, d3, m3, e3, rfl, lt3, g3, g3', r3, l3, l3'⟩ := tLr.2 k hlt
              obtain ⟨b4, o4, a4, n4, c4, rfl, g4, r4, l4⟩ := tMr.at 0 (by omega)
              obtain ⟨b5, o5, a5, n5, c5, e5, g5, r5, l5⟩ := tMr.at 1 (by omega)
              cases e5
              rw [Nat.add_zero] at g4
              have r4 : Tbl wr a4 n4 M.1 := r4
              have r5 : Tbl wr a5 n5 M.2 := r5
              obtain ⟨X, HX⟩ : ∃ X, Hid (L.getD k t2O = X) := ⟨_, Lib.hid rfl⟩
              rw [HX.out] at r3
              have j1 : (0 : Int) ≤ (k : Int) := by omega
              have j2 : (k : Int) < (N : Int) := by omega
              clear tLr tMr
              obtain ⟨D, HD1⟩ : ∃ D, Hid (decide (X.1 = M.1) = D) := ⟨_, Lib.hid rfl⟩
              obtain ⟨E, HE1⟩ : ∃ E, Hid (decide (X.2 = M.2) = E) := ⟨_, Lib.hid rfl⟩
              have HSA : Hid (∀ m, Calls Tryz.prog 44 #[.slice a3 n3 c3, .slice a4 n4 c4] (wr.drewN m) fun e w'' => e = .returned (.bool D) ∧ ∃ k, w'' = wr.drewN k) := Lib.hid fun m => (l01Same2_any a3 a4 n3 n4 c3 c4 X.1 M.1 (wr.drewN m) (r3.f.drewN m) (r4.drewN m) l3).mono fun e w'' ⟨he, k, hk⟩ => ⟨by rw [he, HD1.out], m + k, by rw [hk, World.drewN_drewN]⟩
              have HSB : Hid (∀ m, Calls Tryz.prog 44 #[.slice d3 m3 e3, .slice a5 n5 c5] (wr.drewN m) fun e w'' => e = .returned (.bool E) ∧ ∃ k, w'' = wr.drewN k) := Lib.hid fun m => (l01Same2_any d3 a5 m3 n5 e3 c5 X.2 M.2 (wr.drewN m) (r3.s.drewN m) (r5.drewN m) l3').mono fun e w'' ⟨he, k, hk⟩ => ⟨by rw [he, HE1.out], m + k, by rw [hk, World.drewN_drewN]⟩
              have HDE : Hid ((D && E) = decide (X = M)) := Lib.hid (by
                rw [← HD1.out, ← HE1.out, ← Bool.decide_and]
                exact decide_eq_decide.2 ⟨fun h => Prod.ext h.1 h.2, fun h => by rw [h]; exact ⟨rfl, rfl⟩⟩)
              cases D with
              | true =>
                cases E with
                | true =>
                  have HRK : Hid (R = k) := Lib.hid (HI2.out k (by have := HNL.out; omega) (by rw [HX.out]; exact of_decide_eq_true HDE.out.symm) HT.out)
                  go_wp2
                  go_quiet (first | (go_at_call 44; with_reducible exact HSA.out _) | (go_at_call 44; with_reducible exact HSB.out _))
                  go_wp2
                  go_ret2
                  exact ⟨by rw [HRK.out]; rfl, by obtain ⟨m, hm⟩ := HW.out; rw [hm]; exact below_drewN (below_drewN hB2 _) _⟩
                | false =>
                  go_wp2
                  go_quiet (first | (go_at_call 44; with_reducible exact HSA.out _) | (go_at_call 44; with_reducible exact HSB.out _))
                  go_wp2
                  go_roundw
                  case rel => exact ⟨k + 1, by omega, by go_num, Lib.hid fun j hj => by
                    by_cases e : j = k
                    · subst e; rw [HX.out]; exact of_decide_eq_false HDE.out.symm
                    · exact HT.out j (by omega), Lib.hid (by obtain ⟨m, hm⟩ := HW.out; exact ⟨m + nq, by rw [hm, World.drewN_drewN]⟩)⟩
                  case measure => simp [intOf]; omega
              | false =>
                go_wp2
                go_quiet (first | (go_at_call 44; with_reducible exact HSA.out _) | (go_at_call 44; with_reducible exact HSB.out _))
                go_wp2
                go_roundw
                case rel => exact ⟨k + 1, by omega, by go_num, Lib.hid fun j hj => by
                  by_cases e : j = k
                  · subst e; rw [HX.out]; exact of_decide_eq_false HDE.out.symm
                  · exact HT.out j (by omega), Lib.hid (by obtain ⟨m, hm⟩ := HW.out; exact ⟨m + nq, by rw [hm, World.drewN_drewN]⟩)⟩
                case measure => simp [intOf]; omega
            · exact absurd HK0.out.2 (HT.out k0 (by have := HK0.out.1; have := HNL.out; omega))
    · rw [posF_big hk (by rw [← HN.out]; exact h3)]
      have hgt : (3 : Int) < (n : Int) := by omega
      clear hk sf sg
      go_enter Tryz.func7, Tryz.ntmps7
      go_wp2_with fail
      refine (l02Is_any _ _ _ _ _ _ f g _ f1' g1' hm1 hm2).mono ?_
      rintro e w1 ⟨rfl, hb1⟩
      rw [HK.out]
      have lA1 := (hA.below hb1 hA.lt).two
      go_wp2
      go_ret2
      exact ⟨rfl, below_th hB hb1⟩

end Go.Proofs.YthgafpeblpnolaaGreat
