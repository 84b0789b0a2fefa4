/-
  Drawn braids and numbers for the laws of half twists and of words: what the drawing functions leave, whatever they draw.
  No condition but bounds.
-/
import Derived.Test.YtgnaeeifnhgobaaDrawC
namespace Go.Proofs.Ytgnaeeifnhgobaa
set_option linter.unusedVariables false
set_option linter.unusedSimpArgs false
set_option maxRecDepth 100000
open Go.RowKit

set_option maxHeartbeats 4000000 in
theorem DrawHalfTwist_ok (a : Option Addr) (n c : Nat) (xs : List Int) (w : World) (h : Bts w a n xs) (hn : n ≤ 9223372036854775807) :
    Calls Try.prog 23 #[.slice a n c] w fun e w' => ∃ x, e = .returned (.int .i64 x) ∧ 0 ≤ x ∧ x < 9 ∧ Below w.heap.size w w' := by
  go_enter Try.func23, Try.ntmps23
  go_wp2_with fail
  refine (l01From_ok a n c xs _ h hn).mono ?_
  rintro e w1 ⟨b, rfl, hb, hs, hb1⟩
  go_wp2_with fail
  refine (l01Next_ok b 9 _ hs ⟨by omega, by omega⟩).mono ?_
  rintro e w2 ⟨p, rfl, _, hp, hs2, hg2⟩
  obtain ⟨hp1, hp2⟩ := hp (by omega)
  go_wp2
  go_ret
  exact ⟨p, rfl, hp1, hp2, hb1.grown hg2 hb1.size (fun k hk => by cases hk; exact hb)⟩

set_option maxHeartbeats 8000000 in
theorem DrawIsBraid_ok (a : Option Addr) (n c : Nat) (xs : List Int) (w : World) (h : Bts w a n xs) (hn : n ≤ 9223372036854775807) :
    Calls Try.prog 56 #[.slice a n c] w (DrT w) := by
  go_enter Try.func56, Try.ntmps56
  have hR := Loc.new w rfl #[.int .i64 0, .slice none 0 0] 26
  go_wp2_with fail
  refine (l01From_ok a n c xs _ (h.below (below_al (Below.refl _ _) _)) hn).mono ?_
  rintro e w1 ⟨b, rfl, hb, hs1, hb1⟩
  have hR1 := hR.below hb1 hR.lt
  have hB1 := below_alth (Below.refl _ _) hb1
  rw [size_alloc] at hb
  go_wp2_with fail
  refine (l16DrawAny_ok b 6 12 _ hs1 (by omega) (by omega) (by omega)).mono ?_
  rintro e w2 ⟨S, a2, n2, c2, ys, rfl, hS1, hS2, hn2, hsm, ho, hs2, hg2⟩
  have hR2 := hR1.grown hg2 (by simp; omega)
  have hB2 := below_grown hB1 hg2 (by omega)
  have hz1 := hs1.lt
  have lR2 := hR2.two
  go_wp2
  refine bodyPost_ret (v := bAgg S a2 n2 c2) (by simp [results, Try.results56, go_sem, lR2]) rfl ⟨S, a2, n2, c2, ys, rfl, hS1, hS2, hn2, hsm, ?_, ?_⟩
  · exact ((ho.setlo (by simp <;> omega) _).setlo (by simp <;> omega) _).mono (by omega)
  · exact (hB2.setCell (by simp) _).setCell (by simp) _

set_option maxHeartbeats 8000000 in
theorem DrawNormalBraid_ok (a : Option Addr) (n c : Nat) (xs : List Int) (w : World) (h : Bts w a n xs) (hn : n ≤ 9223372036854775807) :
    Calls Try.prog 29 #[.slice a n c] w (DrT w) := by
  go_enter Try.func29, Try.ntmps29
  have hR := Loc.new w rfl #[.int .i64 0, .slice none 0 0] 26
  go_wp2_with fail
  refine (DrawIsBraid_ok a n c xs _ (h.below (below_al (Below.refl _ _) _)) hn).mono ?_
  rintro e w1 ⟨S, a2, n2, c2, ys, rfl, hS1, hS2, hn2, hsm, ho, hb1⟩
  have hR1 := hR.below hb1 hR.lt
  have hB1 := below_alth (Below.refl _ _) hb1
  have lR1 := hR1.two
  rw [size_alloc] at ho
  go_wp2
  refine bodyPost_ret (v := bAgg S a2 n2 c2) (by simp [results, Try.results29, go_sem, lR1]) rfl ⟨S, a2, n2, c2, ys, rfl, hS1, hS2, hn2, hsm, ?_, ?_⟩
  · exact ((ho.setlo (by simp <;> omega) _).setlo (by simp <;> omega) _).mono (by omega)
  · exact (hB1.setCell (by simp) _).setCell (by simp) _

set_option maxHeartbeats 8000000 in
theorem DrawReduceBraid_ok (a : Option Addr) (n c : Nat) (xs : List Int) (w : World) (h : Bts w a n xs) (hn : n ≤ 9223372036854775807) :
    Calls Try.prog 15 #[.slice a n c] w (DrT w) := by
  go_enter Try.func15, Try.ntmps15
  have hR := Loc.new w rfl #[.int .i64 0, .slice none 0 0] 26
  go_wp2_with fail
  refine (l01From_ok a n c xs _ (h.below (below_al (Below.refl _ _) _)) hn).mono ?_
  rintro e w1 ⟨b, rfl, hb, hs1, hb1⟩
  have hR1 := hR.below hb1 hR.lt
  have hB1 := below_alth (Below.refl _ _) hb1
  rw [size_alloc] at hb
  go_wp2_with fail
  refine (l16DrawAny_ok b 3 12 _ hs1 (by omega) (by omega) (by omega)).mono ?_
  rintro e w2 ⟨S, a2, n2, c2, ys, rfl, hS1, hS2, hn2, hsm, ho, hs2, hg2⟩
  have hR2 := hR1.grown hg2 (by simp; omega)
  have hB2 := below_grown hB1 hg2 (by omega)
  have hz1 := hs1.lt
  have lR2 := hR2.two
  go_wp2
  refine bodyPost_ret (v := bAgg S a2 n2 c2) (by simp [results, Try.results15, go_sem, lR2]) rfl ⟨S, a2, n2, c2, ys, rfl, hS1, hS2, hn2, hsm, ?_, ?_⟩
  · exact ((ho.setlo (by simp <;> omega) _).setlo (by simp <;> omega) _).mono (by omega)
  · exact (hB2.setCell (by simp) _).setCell (by simp) _
end Go.Proofs.Ytgnaeeifnhgobaa
