/-
  AreEqualBraids, both sides.
  No condition but bounds of lengths.
-/
import Derived.Test.YtdkpalllfekiiaaGreatNbI
import Derived.Test.YtdkpalllfekiiaaGreatNfS
import Derived.Test.YtdkpalllfekiiaaGreatTimS
import Derived.Test.YtdkpalllfekiiaaGreatSame2
import Derived.Test.YtdkpalllfekiiaaGreatBase2
namespace Go.Proofs.YtdkpalllfekiiaaGreat
set_option maxRecDepth 100000
set_option linter.unusedVariables false
set_option linter.unusedSimpArgs false
open Go.RowKit

set_option maxHeartbeats 4000000 in
theorem impl_Aeq_no (s t : Int) (a a' : Option Addr) (N N' c c' : Nat) (xs ys : List Int) (w : World) (h1 : Row w a N xs) (h2 : Row w a' N' ys) (hm : N ≤ 9223372036854775807) (hm' : N' ≤ 9223372036854775807) (hno : (isBr s xs && isBr t ys && decide (s = t)) = false) :
    Calls Tryz.prog 6 #[bAgg s a N c, bAgg t a' N' c'] w fun e w' => e = .returned (.tuple #[.bool false, .int .i64 1]) ∧ Below w.heap.size w w' := by
  obtain ⟨w0, hw0⟩ : ∃ w0, (w.alloc (.cells #[.int .i64 s, .slice a N c] 26)).alloc (.cells #[.int .i64 t, .slice a' N' c'] 26) = w0 := ⟨_, rfl⟩
  have hA : Loc w0 w.heap.size #[.int .i64 s, .slice a N c] 26 := by rw [← hw0]; exact (Loc.new w rfl _ _).alloc _
  have hC : Loc w0 (w.heap.size + 1) #[.int .i64 t, .slice a' N' c'] 26 := by rw [← hw0]; exact Loc.new _ (by simp) _ _
  have hB0 : Below w.heap.size w w0 := by rw [← hw0]; exact below_al (below_al (Below.refl _ _) _) _
  have lA := hA.two
  have lC := hC.two
  have HNO := Lib.hid hno; clear hno
  go_enter Tryz.func6, Tryz.ntmps6
  go_wp2_with fail
  refine (isBraid_any s a N c xs w0 (h1.below hB0) hm).mono ?_
  rintro e w1 ⟨rfl, hb1⟩
  have hA1 := hA.below hb1 hA.lt
  have hC1 := hC.below hb1 hC.lt
  have lA1 := hA1.two
  have lC1 := hC1.two
  have hB1 := below_th hB0 hb1
  clear hw0 lA lC
  cases q : isBr s xs with
  | false =>
    clear q
    go_wp2
    go_ret2
    exact ⟨rfl, hB1⟩
  | true =>
  have HQ := Lib.hid q; clear q
  go_wp2_with fail
  refine (isBraid_any t a' N' c' ys w1 (h2.below hB1) hm').mono ?_
  rintro e w2 ⟨rfl, hb2⟩
  have hA2 := hA1.below hb2 hA1.lt
  have hC2 := hC1.below hb2 hC1.lt
  have lA2 := hA2.two
  have lC2 := hC2.two
  have hB2 := below_th hB1 hb2
  clear lA1 lC1
  cases q2 : isBr t ys with
  | false =>
    clear q2
    go_wp2
    go_ret2
    exact ⟨rfl, hB2⟩
  | true =>
  have hst : s ≠ t := fun e => by have := HNO.out; rw [HQ.out, q2, decide_eq_true e] at this; cases this
  have hnn : (s != t) = true := by simpa using hst
  clear q2 hst
  go_wp2
  go_ret2
  exact ⟨rfl, hB2⟩

set_option maxHeartbeats 4000000 in
theorem spec_Aeq_no (s t : Int) (a a' : Option Addr) (N N' c c' : Nat) (xs ys : List Int) (w : World) (h1 : Row w a N xs) (h2 : Row w a' N' ys) (hm : N ≤ 9223372036854775807) (hm' : N' ≤ 9223372036854775807) (hs : I64 s) (ht : I64 t) (hno : (isBr s xs && isBr t ys && decide (s = t)) = false) :
    Calls Tryz.prog 7 #[bAgg s a N c, bAgg t a' N' c'] w fun e w' => e = .returned (.tuple #[.bool false, .int .i64 1]) ∧ Below w.heap.size w w' := by
  obtain ⟨w0, hw0⟩ : ∃ w0, (w.alloc (.cells #[.int .i64 s, .slice a N c] 26)).alloc (.cells #[.int .i64 t, .slice a' N' c'] 26) = w0 := ⟨_, rfl⟩
  have hA : Loc w0 w.heap.size #[.int .i64 s, .slice a N c] 26 := by rw [← hw0]; exact (Loc.new w rfl _ _).alloc _
  have hC : Loc w0 (w.heap.size + 1) #[.int .i64 t, .slice a' N' c'] 26 := by rw [← hw0]; exact Loc.new _ (by simp) _ _
  have hB0 : Below w.heap.size w w0 := by rw [← hw0]; exact below_al (below_al (Below.refl _ _) _) _
  have lA := hA.two
  have lC := hC.two
  have HT : Hid (twoF s xs t ys = 1) := Lib.hid (by unfold twoF; rw [hno]; rfl)
  clear hno
  go_enter Tryz.func7, Tryz.ntmps7
  go_wp2_with fail
  refine (l16Two_any s t a a' N N' c c' xs ys w0 (h1.below hB0) (h2.below hB0) hm hm' hs ht).mono ?_
  rintro e w1 ⟨rfl, hb1⟩
  rw [HT.out]
  have hB1 := below_th hB0 hb1
  clear hw0 lA lC
  go_wp2
  go_ret2
  exact ⟨rfl, hB1⟩

set_option maxHeartbeats 4000000 in
theorem spec_Aeq_ok (n : Nat) (a a' : Option Addr) (N N' c c' : Nat) (xs ys : List Int) (r r' : Int × List (List Int)) (w : World) (h1 : Row w a N xs) (h2 : Row w a' N' ys) (hb : isBr n xs = true) (hb' : isBr n ys = true) (hr : NFo n (begS n (0, []) xs) r) (hr' : NFo n (begS n (0, []) ys) r') :
    Calls Tryz.prog 7 #[bAgg n a N c, bAgg n a' N' c'] w fun e w' => e = .returned (.tuple #[.bool (decide (r = r')), .int .i64 0]) ∧ Below w.heap.size w w' := by
  obtain ⟨w0, hw0⟩ : ∃ w0, (w.alloc (.cells #[.int .i64 n, .slice a N c] 26)).alloc (.cells #[.int .i64 n, .slice a' N' c'] 26) = w0 := ⟨_, rfl⟩
  have hA : Loc w0 w.heap.size #[.int .i64 n, .slice a N c] 26 := by rw [← hw0]; exact (Loc.new w rfl _ _).alloc _
  have hC : Loc w0 (w.heap.size + 1) #[.int .i64 n, .slice a' N' c'] 26 := by rw [← hw0]; exact Loc.new _ (by simp) _ _
  have hB0 : Below w.heap.size w w0 := by rw [← hw0]; exact below_al (below_al (Below.refl _ _) _) _
  have lA := hA.two
  have lC := hC.two
  have HT : Hid (twoF n xs n ys = 0) := Lib.hid (by unfold twoF; rw [hb, hb']; simp)
  have HB := Lib.hid hb
  have HB' := Lib.hid hb'
  have HR := Lib.hid hr
  have HR' := Lib.hid hr'
  have hN : N ≤ 30 := by have := (br_ltr hb).2.2.1; have := h1.len; omega
  have hN' : N' ≤ 30 := by have := (br_ltr hb').2.2.1; have := h2.len; omega
  have hn6 := (br_ltr hb).2.1
  have hsn : I64 (n : Int) := ⟨by omega, by omega⟩
  clear hb hr hb' hr'
  go_enter Tryz.func7, Tryz.ntmps7
  go_wp2_with fail
  refine (l16Two_any n n a a' N N' c c' xs ys w0 (h1.below hB0) (h2.below hB0) (by omega) (by omega) hsn hsn).mono ?_
  rintro e w2 ⟨rfl, hb1⟩
  rw [HT.out]
  have hA2 := hA.below hb1 hA.lt
  have hC2 := hC.below hb1 hC.lt
  have lA2 := hA2.two
  have lC2 := hC2.two
  have hB2 := below_th hB0 hb1
  clear hw0 lA lC
  go_wp2_with fail
  refine (l16Normal_any n a N c xs w2 (h1.below hB2) HB.out).mono ?_
  rintro e w3 ⟨x, a3, m3, c3, F, rfl, hn3, ht3, hb3, b1, b2, b3, b4⟩
  have hC3 := hC2.below hb3 hC2.lt
  have lC3 := hC3.two
  have hB3 := below_th hB2 hb3
  go_wp2_with fail
  refine (l16Normal_any n a' N' c' ys w3 (h2.below hB3) HB'.out).mono ?_
  rintro e w4 ⟨y, a4, m4, c4, G, rfl, hn4, ht4, hb4, d1, d2, d3, d4⟩
  have hB4 := below_th hB3 hb4
  obtain ⟨h2', _, _, _⟩ := br_ltr HB.out
  have he : r = (x, F) := nfo_one h2' (br_fx HB.out) HR.out hn3
  have he' : r' = (y, G) := nfo_one h2' (br_fx HB'.out) HR'.out hn4
  have HE : Hid (decide (r = r') = (decide (x = y) && decide (F = G))) := Lib.hid (by rw [he, he', Bool.eq_iff_iff]; simp)
  have HL3 : Hid (∀ y ∈ F, y.length = n) := Lib.hid b4
  have HL4 : Hid (∀ y ∈ G, y.length = n) := Lib.hid d4
  clear he he' hn3 hn4 h2' b4 d4
  by_cases hxy : x = y
  · subst hxy
    have hxx : (x == x) = true := by simp
    go_wp2_with fail
    refine (l01Same2_any _ _ _ _ _ _ F G w4 (ht3.below hb4) ht4 (by omega)).mono ?_
    rintro e w5 ⟨rfl, k5, rfl⟩
    go_wp2
    go_ret2
    exact ⟨by rw [HE.out]; simp, below_drewN hB4 k5⟩
  · have hxx : (x == y) = false := by simp [hxy]
    have HD : Hid (decide (x = y) = false) := Lib.hid (by simp [hxy])
    clear hxy
    go_wp2
    go_ret2
    exact ⟨by rw [HE.out, HD.out]; rfl, hB4⟩

set_option maxHeartbeats 1000000 in
theorem spec_IsBr_any (s : Int) (a : Option Addr) (n c : Nat) (xs : List Int) (w : World) (h1 : Row w a n xs) (hm : n ≤ 9223372036854775807) (hs : I64 s) :
    Calls Tryz.prog 9 #[bAgg s a n c] w fun e w' => e = .returned (.bool (isBr s xs)) ∧ Below w.heap.size w w' := by
  have lA := (Loc.new w rfl #[.int .i64 s, .slice a n c] 26).two
  go_enter Tryz.func9, Tryz.ntmps9
  go_wp2_with fail
  refine (l16Is_any s a n c xs _ (h1.alloc _) hm hs).mono ?_
  rintro e w1 ⟨rfl, hb1⟩
  go_wp2
  go_ret
  exact ⟨rfl, below_alth (Below.refl _ _) hb1⟩
set_option maxHeartbeats 1000000 in
theorem spec_IsSo_any (a : Option Addr) (n c : Nat) (a' : Option Addr) (n' c' : Nat) (f g : List (List Int)) (w : World) (h1 : Tbl w a n f) (h2 : Tbl w a' n' g) (hm1 : n ≤ 9223372036854775807) (hm2 : n' ≤ 9223372036854775807) :
    Calls Tryz.prog 18 #[sAgg a n c a' n' c'] w fun e w' => e = .returned (.bool (isSol f g)) ∧ Below w.heap.size w w' := by
  have lA := (Loc.new w rfl #[.slice a n c, .slice a' n' c'] 42).two
  go_enter Tryz.func18, Tryz.ntmps18
  go_wp2_with fail
  refine (l02Is_any _ _ _ _ _ _ f g _ (h1.alloc _) (h2.alloc _) hm1 hm2).mono ?_
  rintro e w1 ⟨rfl, hb1⟩
  go_wp2
  go_ret
  exact ⟨rfl, below_alth (Below.refl _ _) hb1⟩
end Go.Proofs.YtdkpalllfekiiaaGreat
