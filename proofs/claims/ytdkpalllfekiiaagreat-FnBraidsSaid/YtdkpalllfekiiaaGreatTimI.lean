/-
  What the program's TimesBraid computes. No condition but bounds on lengths.
-/
import Derived.Test.YtdkpalllfekiiaaGreatBase
import Derived.Test.YtdkpalllfekiiaaGreatBase2
import Derived.Deep.RegionHeld3
namespace Go.Proofs.YtdkpalllfekiiaaGreat
set_option maxRecDepth 100000
set_option linter.unusedVariables false
set_option linter.unusedSimpArgs false
open Go.RowKit

theorem tbl2 {w : World} {b : Nat} {a1 a2 : Option Addr} {n1 n2 c1 c2 : Nat} {x1 x2 : List Int} {t : TypeId} (h : Loc w b #[.slice a1 n1 c1, .slice a2 n2 c2] t)
    (h1 : Row w a1 n1 x1) (h2 : Row w a2 n2 x2) (l1 : n1 ≤ 9223372036854775807) (l2 : n2 ≤ 9223372036854775807) : Tbl w (some ⟨b, 0, none⟩) 2 [x1, x2] := by
  refine ⟨rfl, fun i hi => ?_⟩
  have hlt := h.lt
  match i, hi with
  | 0, _ => exact ⟨b, 0, a1, n1, c1, rfl, hlt, h.cell 0 rfl, h1, l1⟩
  | 1, _ => exact ⟨b, 0, a2, n2, c2, rfl, hlt, h.cell 1 rfl, h2, l2⟩

/-- what TimesBraid answers: strands, word, code -/
def timF (s : Int) (xs : List Int) (t : Int) (ys : List Int) : Int × List Int × Int :=
  if isBr s xs && isBr t ys && decide (s = t) then (if xs.length + ys.length ≤ 30 then (s, xs ++ ys, 0) else (0, [], 3)) else (0, [], 1)

set_option maxHeartbeats 1000000 in
theorem impl_Tim_no1 (s t : Int) (a a' : Option Addr) (N N' c c' : Nat) (xs ys : List Int) (w : World) (h1 : Row w a N xs) (h2 : Row w a' N' ys) (hm : N ≤ 9223372036854775807) (hm' : N' ≤ 9223372036854775807) (hb : isBr s xs = false) :
    Calls Tryz.prog 22 #[bAgg s a N c, bAgg t a' N' c'] w (RetB w 0 [] 1) := by
  have HB := Lib.hid hb; clear hb
  obtain ⟨w0, hw0⟩ : ∃ w0, ((w.alloc (.cells #[.int .i64 s, .slice a N c] 26)).alloc (.cells #[.int .i64 t, .slice a' N' c'] 26)).alloc (.cells #[.int .i64 0, .slice none 0 0] 26) = w0 := ⟨_, rfl⟩
  have hA : Loc w0 w.heap.size #[.int .i64 s, .slice a N c] 26 := by rw [← hw0]; exact ((Loc.new w rfl _ _).alloc _).alloc _
  have hC : Loc w0 (w.heap.size + 1) #[.int .i64 t, .slice a' N' c'] 26 := by rw [← hw0]; exact (Loc.new _ (by simp) _ _).alloc _
  have hR : Loc w0 (w.heap.size + 2) #[.int .i64 0, .slice none 0 0] 26 := by rw [← hw0]; exact Loc.new _ (by simp) _ _
  have hB0 : Below w.heap.size w w0 := by rw [← hw0]; exact below_al (below_al (below_al (Below.refl _ _) _) _) _
  have lA := hA.two
  have lC := hC.two
  have lR := hR.two
  go_enter Tryz.func22, Tryz.ntmps22
  go_wp2_with fail
  refine (isBraid_any s a N c xs w0 (h1.below hB0) hm).mono ?_
  rintro e w1 ⟨rfl, hb1⟩
  rw [HB.out]
  have hA1 := hA.below hb1 hA.lt
  have hC1 := hC.below hb1 hC.lt
  have hR1 := hR.below hb1 hR.lt
  have lA1 := hA1.two
  have lC1 := hC1.two
  have lR1 := hR1.two
  have hB1 := below_th hB0 hb1
  have z1 : w.heap.size + 2 < w1.heap.size := hR1.lt
  clear hw0 lA lC lR
  go_wp2
  refine bodyPost_ret (v := .tuple #[bAgg 0 none 0 0, .int .i64 1]) (by simp [results, Tryz.results22, go_sem, lR1]) rfl ⟨none, 0, 0, rfl, Own.nil _ _, ?_⟩
  exact (hB1.setCell (by first | omega | (simp <;> omega)) _).setCell (by first | omega | (simp <;> omega)) _

set_option maxHeartbeats 1000000 in
theorem impl_Tim_no2 (s t : Int) (a a' : Option Addr) (N N' c c' : Nat) (xs ys : List Int) (w : World) (h1 : Row w a N xs) (h2 : Row w a' N' ys) (hm : N ≤ 9223372036854775807) (hm' : N' ≤ 9223372036854775807) (hb : isBr s xs = true) (hb' : isBr t ys = false) :
    Calls Tryz.prog 22 #[bAgg s a N c, bAgg t a' N' c'] w (RetB w 0 [] 1) := by
  have HB := Lib.hid hb; clear hb
  have HB' := Lib.hid hb'; clear hb'
  obtain ⟨w0, hw0⟩ : ∃ w0, ((w.alloc (.cells #[.int .i64 s, .slice a N c] 26)).alloc (.cells #[.int .i64 t, .slice a' N' c'] 26)).alloc (.cells #[.int .i64 0, .slice none 0 0] 26) = w0 := ⟨_, rfl⟩
  have hA : Loc w0 w.heap.size #[.int .i64 s, .slice a N c] 26 := by rw [← hw0]; exact ((Loc.new w rfl _ _).alloc _).alloc _
  have hC : Loc w0 (w.heap.size + 1) #[.int .i64 t, .slice a' N' c'] 26 := by rw [← hw0]; exact (Loc.new _ (by simp) _ _).alloc _
  have hR : Loc w0 (w.heap.size + 2) #[.int .i64 0, .slice none 0 0] 26 := by rw [← hw0]; exact Loc.new _ (by simp) _ _
  have hB0 : Below w.heap.size w w0 := by rw [← hw0]; exact below_al (below_al (below_al (Below.refl _ _) _) _) _
  have lA := hA.two
  have lC := hC.two
  have lR := hR.two
  go_enter Tryz.func22, Tryz.ntmps22
  go_wp2_with fail
  refine (isBraid_any s a N c xs w0 (h1.below hB0) hm).mono ?_
  rintro e w1 ⟨rfl, hb1⟩
  rw [HB.out]
  have hA1 := hA.below hb1 hA.lt
  have hC1 := hC.below hb1 hC.lt
  have hR1 := hR.below hb1 hR.lt
  have lA1 := hA1.two
  have lC1 := hC1.two
  have lR1 := hR1.two
  have hB1 := below_th hB0 hb1
  have z1 : w.heap.size + 2 < w1.heap.size := hR1.lt
  clear hw0 lA lC lR
  go_wp2_with fail
  refine (isBraid_any t a' N' c' ys w1 (h2.below hB1) hm').mono ?_
  rintro e w2 ⟨rfl, hb2⟩
  rw [HB'.out]
  have hA2 := hA1.below hb2 hA1.lt
  have hC2 := hC1.below hb2 hC1.lt
  have hR2 := hR1.below hb2 hR1.lt
  have lA2 := hA2.two
  have lC2 := hC2.two
  have lR2 := hR2.two
  have hB2 := below_th hB1 hb2
  have z2 : w.heap.size + 2 < w2.heap.size := hR2.lt
  clear lA1 lC1 lR1
  go_wp2
  refine bodyPost_ret (v := .tuple #[bAgg 0 none 0 0, .int .i64 1]) (by simp [results, Tryz.results22, go_sem, lR2]) rfl ⟨none, 0, 0, rfl, Own.nil _ _, ?_⟩
  exact (hB2.setCell (by first | omega | (simp <;> omega)) _).setCell (by first | omega | (simp <;> omega)) _

set_option maxHeartbeats 1000000 in
theorem impl_Tim_no3 (s t : Int) (a a' : Option Addr) (N N' c c' : Nat) (xs ys : List Int) (w : World) (h1 : Row w a N xs) (h2 : Row w a' N' ys) (hm : N ≤ 9223372036854775807) (hm' : N' ≤ 9223372036854775807) (hb : isBr s xs = true) (hb' : isBr t ys = true) (hst : s ≠ t) :
    Calls Tryz.prog 22 #[bAgg s a N c, bAgg t a' N' c'] w (RetB w 0 [] 1) := by
  have HB := Lib.hid hb; clear hb
  have HB' := Lib.hid hb'; clear hb'
  have hnn : (s != t) = true := by simpa using hst
  clear hst
  obtain ⟨w0, hw0⟩ : ∃ w0, ((w.alloc (.cells #[.int .i64 s, .slice a N c] 26)).alloc (.cells #[.int .i64 t, .slice a' N' c'] 26)).alloc (.cells #[.int .i64 0, .slice none 0 0] 26) = w0 := ⟨_, rfl⟩
  have hA : Loc w0 w.heap.size #[.int .i64 s, .slice a N c] 26 := by rw [← hw0]; exact ((Loc.new w rfl _ _).alloc _).alloc _
  have hC : Loc w0 (w.heap.size + 1) #[.int .i64 t, .slice a' N' c'] 26 := by rw [← hw0]; exact (Loc.new _ (by simp) _ _).alloc _
  have hR : Loc w0 (w.heap.size + 2) #[.int .i64 0, .slice none 0 0] 26 := by rw [← hw0]; exact Loc.new _ (by simp) _ _
  have hB0 : Below w.heap.size w w0 := by rw [← hw0]; exact below_al (below_al (below_al (Below.refl _ _) _) _) _
  have lA := hA.two
  have lC := hC.two
  have lR := hR.two
  go_enter Tryz.func22, Tryz.ntmps22
  go_wp2_with fail
  refine (isBraid_any s a N c xs w0 (h1.below hB0) hm).mono ?_
  rintro e w1 ⟨rfl, hb1⟩
  rw [HB.out]
  have hA1 := hA.below hb1 hA.lt
  have hC1 := hC.below hb1 hC.lt
  have hR1 := hR.below hb1 hR.lt
  have lA1 := hA1.two
  have lC1 := hC1.two
  have lR1 := hR1.two
  have hB1 := below_th hB0 hb1
  have z1 : w.heap.size + 2 < w1.heap.size := hR1.lt
  clear hw0 lA lC lR
  go_wp2_with fail
  refine (isBraid_any t a' N' c' ys w1 (h2.below hB1) hm').mono ?_
  rintro e w2 ⟨rfl, hb2⟩
  rw [HB'.out]
  have hA2 := hA1.below hb2 hA1.lt
  have hC2 := hC1.below hb2 hC1.lt
  have hR2 := hR1.below hb2 hR1.lt
  have lA2 := hA2.two
  have lC2 := hC2.two
  have lR2 := hR2.two
  have hB2 := below_th hB1 hb2
  have z2 : w.heap.size + 2 < w2.heap.size := hR2.lt
  clear lA1 lC1 lR1
  go_wp2
  refine bodyPost_ret (v := .tuple #[bAgg 0 none 0 0, .int .i64 1]) (by simp [results, Tryz.results22, go_sem, lR2]) rfl ⟨none, 0, 0, rfl, Own.nil _ _, ?_⟩
  exact (hB2.setCell (by first | omega | (simp <;> omega)) _).setCell (by first | omega | (simp <;> omega)) _

set_option maxHeartbeats 1000000 in
theorem impl_Tim_limit (s t : Int) (a a' : Option Addr) (N N' c c' : Nat) (xs ys : List Int) (w : World) (h1 : Row w a N xs) (h2 : Row w a' N' ys) (hm : N ≤ 9223372036854775807) (hm' : N' ≤ 9223372036854775807) (hb : isBr s xs = true) (hb' : isBr t ys = true) (hst : s = t) (h30 : ¬ xs.length + ys.length ≤ 30) :
    Calls Tryz.prog 22 #[bAgg s a N c, bAgg t a' N' c'] w (RetB w 0 [] 3) := by
  have hn30 : N ≤ 30 := by have := (isBr_let hb).2.1; have := h1.len; omega
  have hn30' : N' ≤ 30 := by have := (isBr_let hb').2.1; have := h2.len; omega
  have hl := h1.len
  have hl' := h2.len
  subst hst
  have hnn : (s != s) = false := by simp
  have HB := Lib.hid hb; clear hb
  have HB' := Lib.hid hb'; clear hb'
  have h30' : 30 < N + N' := by omega
  have HL := Lib.hid hl; clear hl
  have HL' := Lib.hid hl'; clear hl' h30
  obtain ⟨w0, hw0⟩ : ∃ w0, ((w.alloc (.cells #[.int .i64 s, .slice a N c] 26)).alloc (.cells #[.int .i64 s, .slice a' N' c'] 26)).alloc (.cells #[.int .i64 0, .slice none 0 0] 26) = w0 := ⟨_, rfl⟩
  have hA : Loc w0 w.heap.size #[.int .i64 s, .slice a N c] 26 := by rw [← hw0]; exact ((Loc.new w rfl _ _).alloc _).alloc _
  have hC : Loc w0 (w.heap.size + 1) #[.int .i64 s, .slice a' N' c'] 26 := by rw [← hw0]; exact (Loc.new _ (by simp) _ _).alloc _
  have hR : Loc w0 (w.heap.size + 2) #[.int .i64 0, .slice none 0 0] 26 := by rw [← hw0]; exact Loc.new _ (by simp) _ _
  have hB0 : Below w.heap.size w w0 := by rw [← hw0]; exact below_al (below_al (below_al (Below.refl _ _) _) _) _
  have lA := hA.two
  have lC := hC.two
  have lR := hR.two
  go_enter Tryz.func22, Tryz.ntmps22
  go_wp2_with fail
  refine (isBraid_any s a N c xs w0 (h1.below hB0) hm).mono ?_
  rintro e w1 ⟨rfl, hb1⟩
  rw [HB.out]
  have hA1 := hA.below hb1 hA.lt
  have hC1 := hC.below hb1 hC.lt
  have hR1 := hR.below hb1 hR.lt
  have lA1 := hA1.two
  have lC1 := hC1.two
  have lR1 := hR1.two
  have hB1 := below_th hB0 hb1
  have z1 : w.heap.size + 2 < w1.heap.size := hR1.lt
  clear hw0 lA lC lR
  go_wp2_with fail
  refine (isBraid_any s a' N' c' ys w1 (h2.below hB1) hm').mono ?_
  rintro e w2 ⟨rfl, hb2⟩
  rw [HB'.out]
  have hA2 := hA1.below hb2 hA1.lt
  have hC2 := hC1.below hb2 hC1.lt
  have hR2 := hR1.below hb2 hR1.lt
  have lA2 := hA2.two
  have lC2 := hC2.two
  have lR2 := hR2.two
  have hB2 := below_th hB1 hb2
  have z2 : w.heap.size + 2 < w2.heap.size := hR2.lt
  clear lA1 lC1 lR1
  go_wp2
  refine bodyPost_ret (v := .tuple #[bAgg 0 none 0 0, .int .i64 3]) (by simp [results, Tryz.results22, go_sem, lR2]) rfl ⟨none, 0, 0, rfl, Own.nil _ _, ?_⟩
  exact (hB2.setCell (by first | omega | (simp <;> omega)) _).setCell (by first | omega | (simp <;> omega)) _

set_option maxHeartbeats 1000000 in
theorem impl_Tim_ok (s t : Int) (a a' : Option Addr) (N N' c c' : Nat) (xs ys : List Int) (w : World) (h1 : Row w a N xs) (h2 : Row w a' N' ys) (hm : N ≤ 9223372036854775807) (hm' : N' ≤ 9223372036854775807) (hb : isBr s xs = true) (hb' : isBr t ys = true) (hst : s = t) (h30 : xs.length + ys.length ≤ 30) :
    Calls Tryz.prog 22 #[bAgg s a N c, bAgg t a' N' c'] w (RetB w s (xs ++ ys) 0) := by
  have hn30 : N ≤ 30 := by have := (isBr_let hb).2.1; have := h1.len; omega
  have hn30' : N' ≤ 30 := by have := (isBr_let hb').2.1; have := h2.len; omega
  have hl := h1.len
  have hl' := h2.len
  subst hst
  have hnn : (s != s) = false := by simp
  have HB := Lib.hid hb; clear hb
  have HB' := Lib.hid hb'; clear hb'
  have h30' : N + N' ≤ 30 := by omega
  have hfl : ([xs, ys] : List (List Int)).flatten = xs ++ ys := by simp
  have HF := Lib.hid hfl; clear hfl
  have hfl2 : ([xs, ys] : List (List Int)).flatten.length ≤ 1000000000 := by simp; omega
  have HF2 := Lib.hid hfl2; clear hfl2
  have HL := Lib.hid hl; clear hl
  have HL' := Lib.hid hl'; clear hl' h30
  obtain ⟨w0, hw0⟩ : ∃ w0, ((w.alloc (.cells #[.int .i64 s, .slice a N c] 26)).alloc (.cells #[.int .i64 s, .slice a' N' c'] 26)).alloc (.cells #[.int .i64 0, .slice none 0 0] 26) = w0 := ⟨_, rfl⟩
  have hA : Loc w0 w.heap.size #[.int .i64 s, .slice a N c] 26 := by rw [← hw0]; exact ((Loc.new w rfl _ _).alloc _).alloc _
  have hC : Loc w0 (w.heap.size + 1) #[.int .i64 s, .slice a' N' c'] 26 := by rw [← hw0]; exact (Loc.new _ (by simp) _ _).alloc _
  have hR : Loc w0 (w.heap.size + 2) #[.int .i64 0, .slice none 0 0] 26 := by rw [← hw0]; exact Loc.new _ (by simp) _ _
  have hB0 : Below w.heap.size w w0 := by rw [← hw0]; exact below_al (below_al (below_al (Below.refl _ _) _) _) _
  have lA := hA.two
  have lC := hC.two
  have lR := hR.two
  go_enter Tryz.func22, Tryz.ntmps22
  go_wp2_with fail
  refine (isBraid_any s a N c xs w0 (h1.below hB0) hm).mono ?_
  rintro e w1 ⟨rfl, hb1⟩
  rw [HB.out]
  have hA1 := hA.below hb1 hA.lt
  have hC1 := hC.below hb1 hC.lt
  have hR1 := hR.below hb1 hR.lt
  have lA1 := hA1.two
  have lC1 := hC1.two
  have lR1 := hR1.two
  have hB1 := below_th hB0 hb1
  have z1 : w.heap.size + 2 < w1.heap.size := hR1.lt
  clear hw0 lA lC lR
  go_wp2_with fail
  refine (isBraid_any s a' N' c' ys w1 (h2.below hB1) hm').mono ?_
  rintro e w2 ⟨rfl, hb2⟩
  rw [HB'.out]
  have hA2 := hA1.below hb2 hA1.lt
  have hC2 := hC1.below hb2 hC1.lt
  have hR2 := hR1.below hb2 hR1.lt
  have lA2 := hA2.two
  have lC2 := hC2.two
  have lR2 := hR2.two
  have hB2 := below_th hB1 hb2
  have z2 : w.heap.size + 2 < w2.heap.size := hR2.lt
  clear lA1 lC1 lR1
  have hr1 := h1.below hB2
  have hr2 := h2.below hB2
  go_wp2_with fail
  go_region_held3 (fun w' => w'.cell? ⟨w.heap.size, 0, none⟩ = some (.int .i64 s) ∧ w'.cell? ⟨w.heap.size, 1, none⟩ = some (.slice a N c) ∧ w'.cell? ⟨w.heap.size + 1, 1, none⟩ = some (.slice a' N' c'))
    (first | exact ⟨lA3.1, lA3.2.1, lC3.2.1⟩ | exact ⟨lA2.1, lA2.2.1, lC2.2.1⟩ | exact ⟨(hA2.alloc _).cell 0 rfl, (hA2.alloc _).cell 1 rfl, (hC2.alloc _).cell 1 rfl⟩ | exact ⟨((hA3.setne (by simp <;> omega) _).setne (by simp <;> omega) _).cell 0 rfl, ((hA3.setne (by simp <;> omega) _).setne (by simp <;> omega) _).cell 1 rfl, ((hC3.setne (by simp <;> omega) _).setne (by simp <;> omega) _).cell 1 rfl⟩ | go_keep)
    (first
    | (go_at_call 50; refine (concat_any _ _ _ [xs, ys] _ ((tbl2 (Loc.new _ (by simp) _ _) (hr1.alloc _) (hr2.alloc _) (by omega) (by omega)).drewN 1) (by omega) HF2.out).mono ?_; rintro e w3 ⟨aa, nn, cc, rfl, ho, hb3⟩; rw [HF.out] at ho; have hA3 : Loc w3 w.heap.size _ _ := ((hA2.alloc _).drewN 1).below hb3 (by simp <;> omega); have hC3 : Loc w3 (w.heap.size + 1) _ _ := ((hC2.alloc _).drewN 1).below hb3 (by simp <;> omega); have hR3 : Loc w3 (w.heap.size + 2) _ _ := ((hR2.alloc _).drewN 1).below hb3 (by simp <;> omega); have lA3 := hA3.two; have lC3 := hC3.two; have lR3 := hR3.two; have hB3 : Below w.heap.size w w3 := below_th (below_drewN (below_al hB2 _) 1) hb3))
  all_goals
    go_wp2
    refine bodyPost_ret (v := .tuple #[bAgg s aa nn cc, .int .i64 0]) (by simp [results, Tryz.results22, go_sem, lR3]) rfl ⟨_, _, cc, rfl, ?_, ?_⟩
    · exact ((ho.setlo (by first | omega | (simp <;> omega)) _).setlo (by first | omega | (simp <;> omega)) _).mono (by first | omega | (simp <;> omega))
    · exact (hB3.setCell (by first | omega | (simp <;> omega)) _).setCell (by first | omega | (simp <;> omega)) _

theorem impl_Tim_any (s t : Int) (a a' : Option Addr) (N N' c c' : Nat) (xs ys : List Int) (w : World) (h1 : Row w a N xs) (h2 : Row w a' N' ys) (hm : N ≤ 9223372036854775807) (hm' : N' ≤ 9223372036854775807) :
    Calls Tryz.prog 22 #[bAgg s a N c, bAgg t a' N' c'] w (RetB w (timF s xs t ys).1 (timF s xs t ys).2.1 (timF s xs t ys).2.2) := by
  cases hb : isBr s xs with
  | false =>
    have hT : timF s xs t ys = (0, [], 1) := by simp [timF, hb]
    rw [hT]; exact impl_Tim_no1 s t a a' N N' c c' xs ys w h1 h2 hm hm' hb
  | true =>
    cases hb' : isBr t ys with
    | false =>
      have hT : timF s xs t ys = (0, [], 1) := by simp [timF, hb']
      rw [hT]; exact impl_Tim_no2 s t a a' N N' c c' xs ys w h1 h2 hm hm' hb hb'
    | true =>
      by_cases hst : s = t
      · by_cases h30 : xs.length + ys.length ≤ 30
        · have hT : timF s xs t ys = (s, xs ++ ys, 0) := by unfold timF; rw [hb, hb', decide_eq_true hst]; simp [h30]
          rw [hT]; exact impl_Tim_ok s t a a' N N' c c' xs ys w h1 h2 hm hm' hb hb' hst h30
        · have hT : timF s xs t ys = (0, [], 3) := by unfold timF; rw [hb, hb', decide_eq_true hst]; simp [h30]
          rw [hT]; exact impl_Tim_limit s t a a' N N' c c' xs ys w h1 h2 hm hm' hb hb' hst h30
      · have hT : timF s xs t ys = (0, [], 1) := by simp [timF, hst]
        rw [hT]; exact impl_Tim_no3 s t a a' N N' c c' xs ys w h1 h2 hm hm' hb hb' hst
end Go.Proofs.YtdkpalllfekiiaaGreat
