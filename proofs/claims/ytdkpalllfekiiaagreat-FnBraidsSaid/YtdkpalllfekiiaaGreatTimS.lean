/-
  The reference's TimesBraid.
  No condition but bounds.
-/
import Derived.Test.YtdkpalllfekiiaaGreatTimI
import Derived.Test.YtdkpalllfekiiaaGreatBase
namespace Go.Proofs.YtdkpalllfekiiaaGreat
set_option maxRecDepth 100000
set_option linter.unusedVariables false
set_option linter.unusedSimpArgs false
open Go.RowKit

/-- the error of two braids -/
def twoF (s : Int) (xs : List Int) (t : Int) (ys : List Int) : Int := if isBr s xs && isBr t ys && decide (s = t) then 0 else 1

set_option maxHeartbeats 2000000 in
theorem l16Two_any (s t : Int) (a a' : Option Addr) (N N' c c' : Nat) (xs ys : List Int) (w : World) (h1 : Row w a N xs) (h2 : Row w a' N' ys) (hm : N ≤ 9223372036854775807) (hm' : N' ≤ 9223372036854775807) (hs : I64 s) (ht : I64 t) :
    Calls Tryz.prog 31 #[bAgg s a N c, bAgg t a' N' c'] w fun e w' => e = .returned (.int .i64 (twoF s xs t ys)) ∧ Below w.heap.size w w' := by
  obtain ⟨w0, hw0⟩ : ∃ w0, (w.alloc (.cells #[.int .i64 s, .slice a N c] 26)).alloc (.cells #[.int .i64 t, .slice a' N' c'] 26) = w0 := ⟨_, rfl⟩
  have hA : Loc w0 w.heap.size #[.int .i64 s, .slice a N c] 26 := by rw [← hw0]; exact (Loc.new w rfl _ _).alloc _
  have hC : Loc w0 (w.heap.size + 1) #[.int .i64 t, .slice a' N' c'] 26 := by rw [← hw0]; exact Loc.new _ (by simp) _ _
  have hB0 : Below w.heap.size w w0 := by rw [← hw0]; exact below_al (below_al (Below.refl _ _) _) _
  have HW0 := Lib.hid hw0
  clear hw0
  have lA := hA.two
  have lC := hC.two
  cases hb : isBr s xs with
  | false =>
    have HB := Lib.hid hb
    have HT : Hid (twoF s xs t ys = 1) := Lib.hid (by simp [twoF, hb])
    clear hb
    rw [HT.out]
    go_enter Tryz.func31, Tryz.ntmps31
    go_wp2_with fail
    rw [HW0.out]
    refine (l16Is_any s a N c xs w0 (h1.below hB0) hm hs).mono ?_
    rintro e w1 ⟨rfl, hb1⟩
    rw [HB.out]
    go_wp2
    go_ret
    exact ⟨rfl, below_th hB0 hb1⟩
  | true =>
    have HB := Lib.hid hb
    cases hb' : isBr t ys with
    | false =>
      have HB' := Lib.hid hb'
      have HT : Hid (twoF s xs t ys = 1) := Lib.hid (by simp [twoF, hb, hb'])
      clear hb hb'
      rw [HT.out]
      go_enter Tryz.func31, Tryz.ntmps31
      go_wp2_with fail
      rw [HW0.out]
      refine (l16Is_any s a N c xs w0 (h1.below hB0) hm hs).mono ?_
      rintro e w1 ⟨rfl, hb1⟩
      rw [HB.out]
      have lA1 := (hA.below hb1 hA.lt).two
      have lC1 := (hC.below hb1 hC.lt).two
      have hB1 := below_th hB0 hb1
      clear lA lC
      go_wp2_with fail
      refine (l16Is_any t a' N' c' ys w1 (h2.below hB1) hm' ht).mono ?_
      rintro e w2 ⟨rfl, hb2⟩
      rw [HB'.out]
      go_wp2
      go_ret
      exact ⟨rfl, below_th hB1 hb2⟩
    | true =>
      have HB' := Lib.hid hb'
      by_cases hst : s = t
      · have HT : Hid (twoF s xs t ys = 0) := Lib.hid (by unfold twoF; rw [hb, hb']; simp [hst])
        have hne : (s != t) = false := by simpa using hst
        clear hb hb' hst
        rw [HT.out]
        go_enter Tryz.func31, Tryz.ntmps31
        go_wp2_with fail
        rw [HW0.out]
        refine (l16Is_any s a N c xs w0 (h1.below hB0) hm hs).mono ?_
        rintro e w1 ⟨rfl, hb1⟩
        rw [HB.out]
        have hA1 := hA.below hb1 hA.lt
        have hC1 := hC.below hb1 hC.lt
        have lA1 := hA1.two
        have lC1 := hC1.two
        have hB1 := below_th hB0 hb1
        clear lA lC
        go_wp2_with fail
        refine (l16Is_any t a' N' c' ys w1 (h2.below hB1) hm' ht).mono ?_
        rintro e w2 ⟨rfl, hb2⟩
        rw [HB'.out]
        have lA2 := (hA1.below hb2 hA1.lt).two
        have lC2 := (hC1.below hb2 hC1.lt).two
        clear lA1 lC1
        go_wp2
        go_ret
        exact ⟨rfl, below_th hB1 hb2⟩
      · have HT : Hid (twoF s xs t ys = 1) := Lib.hid (by unfold twoF; rw [hb, hb']; simp [hst])
        have hne : (s != t) = true := by simpa using hst
        clear hb hb' hst
        rw [HT.out]
        go_enter Tryz.func31, Tryz.ntmps31
        go_wp2_with fail
        rw [HW0.out]
        refine (l16Is_any s a N c xs w0 (h1.below hB0) hm hs).mono ?_
        rintro e w1 ⟨rfl, hb1⟩
        rw [HB.out]
        have hA1 := hA.below hb1 hA.lt
        have hC1 := hC.below hb1 hC.lt
        have lA1 := hA1.two
        have lC1 := hC1.two
        have hB1 := below_th hB0 hb1
        clear lA lC
        go_wp2_with fail
        refine (l16Is_any t a' N' c' ys w1 (h2.below hB1) hm' ht).mono ?_
        rintro e w2 ⟨rfl, hb2⟩
        rw [HB'.out]
        have lA2 := (hA1.below hb2 hA1.lt).two
        have lC2 := (hC1.below hb2 hC1.lt).two
        clear lA1 lC1
        go_wp2
        go_ret
        exact ⟨rfl, below_th hB1 hb2⟩

end Go.Proofs.YtdkpalllfekiiaaGreat
