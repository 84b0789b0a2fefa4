/-
  PlaceOfSolution: what the program's computes.
  No condition but bounds.
-/
import Derived.Test.YthgafpeblpnolaaGreatPosS
import Derived.Test.YthgafpeblpnolaaGreatIdxS
import Derived.Test.YthgafpeblpnolaaGreatAsl
import Derived.Test.YthgafpeblpnolaaGreatBase3
import Derived.Test.YthgafpeblpnolaaGreatSolP
import Derived.Test.YthgafpeblpnolaaGreatSolF
import Derived.Deep.DeepCutAuto
namespace Go.Proofs.YthgafpeblpnolaaGreat
set_option maxRecDepth 100000
set_option linter.unusedVariables false
set_option linter.unusedSimpArgs false
open Go.RowKit

/-- the closure, as a test of the solutions of the list -/
theorem pos1_any (b : Nat) (tb : TypeId) (a a' m m' : Option Addr) (k n n' k' c c' cm cm' : Nat) (f g : List (List Int)) (M : T2) (w : World) (hL : Loc w b #[.slice m k cm, .slice m' k' cm'] tb) (h1 : Sol w a n f a' n' g) (h2 : Sol w m k M.1 m' k' M.2) (hn : n ≤ 9223372036854775807) (hn' : n' ≤ 9223372036854775807) :
    Calls Tryz.prog 50 #[sAgg a n c a' n' c', .pointer (some ⟨b, 0, none⟩)] w fun e w' => e = .returned (.bool (decide ((f, g) = M))) ∧ Below w.heap.size w w' := by
  have hA := Loc.new w rfl #[.slice a n c, .slice a' n' c'] 28
  have hB := below_al (Below.refl w.heap.size w) (.cells #[.slice a n c, .slice a' n' c'] 28)
  have lA := hA.two
  have lL := (hL.below hB hL.lt).two
  have HQ : Hid ((cmpS (f, g) (M.1, M.2) == 0) = decide ((f, g) = M)) := Lib.hid (by
    rw [Bool.eq_iff_iff, beq_iff_eq, decide_eq_true_iff]; exact cmpS_cmp.eq _ _)
  obtain ⟨C, HC⟩ : ∃ C, Hid (cmpS (f, g) (M.1, M.2) = C) := ⟨_, Lib.hid rfl⟩
  have HQ2 : Hid ((C == 0) = decide ((f, g) = M)) := Lib.hid (by rw [← HC.out]; exact HQ.out)
  clear HQ
  go_enter Tryz.func50, Tryz.ntmps50
  go_wp2_with fail
  refine (compareSolutions_any a a' m m' n n' k k' c c' cm cm' f g M.1 M.2 _ (h1.f.below hB) (h1.s.below hB) (h2.f.below hB) (h2.s.below hB) hn hn').mono ?_
  rintro e w1 ⟨rfl, q, os', hw1⟩
  have hb1 : Below (w.alloc (.cells #[.slice a n c, .slice a' n' c'] 28)).heap.size (w.alloc (.cells #[.slice a n c, .slice a' n' c'] 28)) w1 := by rw [hw1]; exact below_grow _ _ _
  clear hw1
  rw [HC.out]
  go_wp2
  go_ret
  exact ⟨ret_bool (by rw [HQ2.out]), below_th hB hb1⟩
theorem idxSo_nat {p : T2 → Bool} {ts : List T2} {r : Int} (h : IdxSo p ts r) (hs : ∃ k, k < ts.length ∧ p (ts.getD k t2O) = true) : ∃ k, k < ts.length ∧ r = (k : Int) ∧ p (ts.getD k t2O) = true ∧ ∀ j, j < k → p (ts.getD j t2O) = false := by
  rcases h with h | ⟨_, h⟩
  · exact h
  · obtain ⟨k, hk, e⟩ := hs
    rw [h k hk] at e; cases e

set_option maxHeartbeats 8000000 in
theorem impl_Pos_l (a : Option Addr) (n c : Nat) (f : List (List Int)) (a' : Option Addr) (n' c' : Nat) (g : List (List Int)) (w : World) (h1 : Sol w a n f a' n' g) (hm : n ≤ 9223372036854775807 ∧ n' ≤ 9223372036854775807) :
    Calls Tryz.prog 9 #[sAgg a n c a' n' c'] w (RetI w (posF f g).1 (posF f g).2) := by
  have hA := Loc.new w rfl #[.slice a n c, .slice a' n' c'] 28
  have hB := below_al (Below.refl w.heap.size w) (.cells #[.slice a n c, .slice a' n' c'] 28)
  have f1' := h1.f.alloc (.cells #[.slice a n c, .slice a' n' c'] 28)
  have g1' := h1.s.alloc (.cells #[.slice a n c, .slice a' n' c'] 28)
  obtain ⟨hm1, hm2⟩ := hm
  have HN := Lib.hid h1.f.len
  have hNG := h1.s.len
  have lA := hA.two
  cases hk : isSol f g with
  | false =>
    rw [posF_no hk]
    have HK := Lib.hid hk; clear hk hNG
    go_enter Tryz.func9, Tryz.ntmps9
    go_wp2_with fail
    refine (isSolution_any _ _ _ _ _ _ f g _ f1' g1' hm1 hm2).mono ?_
    rintro e w1 ⟨rfl, hb1⟩
    rw [HK.out]
    go_wp2
    go_ret2
    exact ⟨rfl, below_th hB hb1⟩
  | true =>
    obtain ⟨n1, n12, sf, sg⟩ := isSol_sq hk
    rw [← HN.out] at n1 n12 sf sg
    obtain rfl : n = n' := by have := sg.len; omega
    have HSF := Lib.hid sf; have HSG := Lib.hid sg
    have HK := Lib.hid hk
    clear hNG
    by_cases h3 : n ≤ 3
    · cases hd : ndF f g with
      | false =>
        rw [posF_deg hk (by rw [← HN.out]; exact h3) hd]
        have HD := Lib.hid hd
        clear hk sf sg hd
        have hgt : ¬ (3 : Int) < (n : Int) := by omega
        go_enter Tryz.func9, Tryz.ntmps9
        go_wp2_with fail
        refine (isSolution_any _ _ _ _ _ _ f g _ f1' g1' hm1 hm2).mono ?_
        rintro e w1 ⟨rfl, hb1⟩
        rw [HK.out]
        have lA1 := (hA.below hb1 hA.lt).two
        go_wp2_with fail
        refine (isNondegenerate_any n _ _ _ _ f g _ (f1'.below hb1) (g1'.below hb1) HSF.out HSG.out n12).mono ?_
        rintro e w2 ⟨rfl, hb2⟩
        rw [HD.out]
        go_wp2
        go_ret2
        exact ⟨rfl, below_th (below_th hB hb1) hb2⟩
      | true =>
        rw [posF_in hk (by rw [← HN.out]; exact h3) hd]
        obtain ⟨k0, hk0, ek0⟩ := pos_some hk (by rw [← HN.out]; exact h3) hd
        have HI := Lib.hid (fun k hk => posI_of (s := (f, g)) (k := k) hk)
        rw [← HN.out] at hk0 ek0
        obtain ⟨L, HL⟩ : ∃ L, Hid (slrL n = L) := ⟨_, Lib.hid rfl⟩
        obtain ⟨M, HM⟩ : ∃ M, Hid (lesL n (f, g) = M) := ⟨_, Lib.hid rfl⟩
        have HI2 : Hid (∀ k, k < L.length → L.getD k t2O = M → (∀ j, j < k → L.getD j t2O ≠ M) → posI (f, g) = k) := Lib.hid (by rw [← HL.out, ← HM.out, HN.out]; exact HI.out)
        clear HI
        rw [HL.out] at hk0 ek0
        rw [HM.out] at ek0
        have HLB : Hid (L.length ≤ 1000000) := Lib.hid (by rw [← HL.out]; exact slrL_bd n1 h3)
        have HD := Lib.hid hd
        have HK0 : Hid (∃ k, k < L.length ∧ decide (L.getD k t2O = M) = true) := Lib.hid ⟨k0, hk0, by rw [ek0]; simp⟩
        obtain ⟨R, HR⟩ : ∃ R : Nat, Hid (posI (f, g) = R) := ⟨_, Lib.hid rfl⟩
        rw [HR.out] at HI2
        rw [HR.out]
        clear hk sf sg hd hk0 ek0
        have hgt : ¬ (3 : Int) < (n : Int) := by omega
        go_enter Tryz.func9, Tryz.ntmps9
        go_wp2_with fail
        refine (isSolution_any _ _ _ _ _ _ f g _ f1' g1' hm1 hm2).mono ?_
        rintro e w0 ⟨rfl, hb0⟩
        rw [HK.out]
        have hA0 := hA.below hb0 hA.lt
        have lA0 := hA0.two
        have f0 := f1'.below hb0
        have g0 := g1'.below hb0
        have hB0 := below_th hB hb0
        clear hA hB f1' g1' lA
        go_wp2_with fail
        refine (isNondegenerate_any n _ _ _ _ f g _ f0 g0 HSF.out HSG.out n12).mono ?_
        rintro e w1 ⟨rfl, hb1⟩
        rw [HD.out]
        have hA1 := hA0.below hb1 hA0.lt
        have lA1 := hA1.two
        have hB1 := below_th hB0 hb1
        have ff1 := f0.below hb1
        have gg1 := g0.below hb1
        clear hA0 hB0 f0 g0 lA0 hb0 hb1
        go_wp2_with fail
        refine (leastSolution_any n a a' c c' f g w1 n1 (by omega) ff1 gg1 HSF.out HSG.out).mono ?_
        rintro e w2 ⟨b2, d2, vs2, b2', d2', vs2', rfl, ho2, hb2⟩
        rw [HM.out] at ho2
        have hB2 := below_th hB1 hb2
        obtain ⟨w3, hw3⟩ : ∃ w3, w2.alloc (.cells #[.slice b2 n d2, .slice b2' n d2'] 28) = w3 := ⟨_, rfl⟩
        have hL3 : Loc w3 w2.heap.size #[.slice b2 n d2, .slice b2' n d2'] 28 := by rw [← hw3]; exact Loc.new w2 rfl _ _
        have hb3 : Below w2.heap.size w2 w3 := by rw [← hw3]; exact below_al (Below.refl _ _) _
        have hB3 := below_th hB2 hb3
        have lL3 := hL3.two
        have tM : Sol w3 b2 n M.1 b2' n M.2 := ⟨ho2.f.tbl.below hb3, ho2.s.tbl.below hb3⟩
        go_wp2_with fail
        refine (allSolutions_any n _ n1 h3).mono ?_
        rintro e w4 ⟨a4, k4, c4, us4, ts4, rfl, ho4, hp4, hs4, hb4⟩
        have ht : ts4 = slrL n := slrL_eq (solL_lens n1 h3) hp4 hs4
        rw [ht, HL.out] at ho4
        clear ht hp4 hs4
        have hB4 := below_th hB3 hb4
        have hL4 := hL3.below hb4 hL3.lt
        have hk4 : k4 ≤ 1000000000 := by have := ho4.len; have := HLB.out; omega
        have HT : Hid (TstSo w4 50 #[.pointer (some ⟨w2.heap.size, 0, none⟩)] (fun s => decide (s = M)) L) := Lib.hid ⟨fun args w => rfl, fun i hi w' hb va vn vc va' vn' vc' ht => by
          have hmm : L.getD i t2O ∈ L := by rw [List.getD_eq_getElem?_getD, List.getElem?_eq_getElem hi]; exact List.getElem_mem hi
          have hl : (L.getD i t2O).1.length = n ∧ (L.getD i t2O).2.length = n := by
            rw [← HL.out] at hmm ⊢
            exact solL_lens n1 h3 _ (slrL_mem n1 h3 hmm)
          exact pos1_any w2.heap.size _ va va' b2 b2' n vn vn' n vc vc' d2 d2' _ _ M w' (hL4.below hb hL4.lt) ht ⟨(tM.f.below hb4).below hb, (tM.s.below hb4).below hb⟩ (by have := ht.f.len; omega) (by have := ht.s.len; omega)⟩
        go_wp2_with fail
        refine (indexSo_any _ _ _ a4 k4 c4 L w4 ho4.sbS hk4 HT.out).mono ?_
        rintro e w5 ⟨⟨r, rfl, hr⟩, hb5⟩
        obtain ⟨k, hk1, rfl, hk2, hk3⟩ := idxSo_nat hr HK0.out
        have HRK : Hid (R = k) := Lib.hid (HI2.out k hk1 (of_decide_eq_true hk2) fun j hj => of_decide_eq_false (hk3 j hj))
        have hkk : k ≤ 1000000 := by have := HLB.out; omega
        clear hk2 hk3 hr
        go_wp2
        go_ret2
        exact ⟨by rw [HRK.out]; rfl, below_th hB4 hb5⟩
    · rw [posF_big hk (by rw [← HN.out]; exact h3)]
      have hgt : (3 : Int) < (n : Int) := by omega
      clear hk sf sg
      go_enter Tryz.func9, Tryz.ntmps9
      go_wp2_with fail
      refine (isSolution_any _ _ _ _ _ _ f g _ f1' g1' hm1 hm2).mono ?_
      rintro e w1 ⟨rfl, hb1⟩
      rw [HK.out]
      have lA1 := (hA.below hb1 hA.lt).two
      go_wp2
      go_ret2
      exact ⟨rfl, below_th hB hb1⟩
end Go.Proofs.YthgafpeblpnolaaGreat
