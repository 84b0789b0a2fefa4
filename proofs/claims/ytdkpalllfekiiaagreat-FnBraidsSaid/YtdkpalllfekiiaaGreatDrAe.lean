/-
  The reference's draw of two braids, often equal ones: what it leaves, whatever it draws.
  No condition but bounds.
-/
import Derived.Test.YtdkpalllfekiiaaGreatDrAo
namespace Go.Proofs.YtdkpalllfekiiaaGreat
set_option maxRecDepth 100000
set_option linter.unusedVariables false
set_option linter.unusedSimpArgs false
open Go.RowKit

set_option maxHeartbeats 8000000 in
theorem DrawAreEqualBraids_ok (a : Option Addr) (n c : Nat) (xs : List Int) (w : World) (h : Bts w a n xs) (hn : n ≤ 9223372036854775807) :
    Calls Tryz.prog 5 #[.slice a n c] w (DrTT w) := by
  go_enter Tryz.func5, Tryz.ntmps5
  have hP := (Loc.new w rfl #[.int .i64 0, .slice none 0 0] 26).alloc (.cells #[.int .i64 0, .slice none 0 0] 26)
  have hR := Loc.new (w.alloc (.cells #[.int .i64 0, .slice none 0 0] 26)) rfl #[.int .i64 0, .slice none 0 0] 26
  have hB0 := below_al (below_al (Below.refl w.heap.size w) (.cells #[.int .i64 0, .slice none 0 0] 26)) (.cells #[.int .i64 0, .slice none 0 0] 26)
  rw [size_alloc] at hR
  go_wp2_with fail
  refine (l01From_ok a n c xs _ (h.below hB0) hn).mono ?_
  rintro e w1 ⟨b, rfl, hb, hs1, hb1⟩
  have hP1 := hP.below hb1 hP.lt
  have hR1 := hR.below hb1 hR.lt
  have hB1 := below_th hB0 hb1
  rw [size_alloc, size_alloc] at hb
  clear hP hR hB0
  go_wp2_with fail
  refine (l16DrawAny_ok b 5 12 _ hs1 (by omega) (by omega) (by omega)).mono ?_
  rintro e w2 ⟨S, a2, n2, c2, ys, rfl, hS1, hS2, hn2, hsm, ho, hs2, hg2⟩
  have hP2 := hP1.grown hg2 (by simp; omega)
  have hR2 := hR1.grown hg2 (by simp; omega)
  have hB2 := below_grown hB1 hg2 (by omega)
  have hz1 := hs1.lt
  have hz2 := hg2.size
  have hL2 := Loc.new w2 rfl #[.int .i64 S, .slice a2 n2 c2] 26
  have hne : ∀ g, a2 = some ⟨g, 0, none⟩ → g ≠ w2.heap.size := fun g e => by have := ho.hi g e; omega
  go_wp2_with fail
  refine (l16Is_any S _ _ _ ys _ (ho.row.alloc _) (by omega) ⟨by omega, by omega⟩).mono ?_
  rintro e w3 ⟨rfl, hb3⟩
  have hL3 := hL2.below hb3 hL2.lt
  have hP3 := (hP2.alloc (.cells #[.int .i64 S, .slice a2 n2 c2] 26)).below hb3 (by simp; omega)
  have hR3 := (hR2.alloc (.cells #[.int .i64 S, .slice a2 n2 c2] 26)).below hb3 (by simp; omega)
  have hB3 := below_alth hB2 hb3
  have ho3 := (ho.alloc (.cells #[.int .i64 S, .slice a2 n2 c2] 26)).below hb3
  have hs3 := (hs2.below (below_al (Below.refl _ _) (.cells #[.int .i64 S, .slice a2 n2 c2] 26))).below hb3
  have hz3 : w2.heap.size < w3.heap.size := hL3.lt
  have hwR : w.heap.size + 2 ≤ w1.heap.size := hR1.lt
  have HI3 : Hid (Src w3 b ∧ Loc w3 w2.heap.size #[.int .i64 S, .slice a2 n2 c2] 26 ∧ Loc w3 w.heap.size #[.int .i64 0, .slice none 0 0] 26 ∧ Loc w3 (w.heap.size + 1) #[.int .i64 0, .slice none 0 0] 26 ∧ Own w3 w1.heap.size a2 n2 c2 ys ∧ Below w.heap.size w w3) := Lib.hid ⟨hs3, hL3, hP3, hR3, ho3, hB3⟩
  clear hP1 hP2 hR1 hR2 hB1 hB2 ho hs1 hs2 hg2 hb1 hb3 hL2 hs3 hL3 hP3 hR3 ho3 hB3
  cases hbr : isBr S ys with
  | false =>
    go_upto_region 5 with fail
    have HI4 := HI3
    clear HI3
    obtain ⟨hs4, hL4, hP4, hR4, ho4, hB4⟩ := HI4.out
    have hz4 := hL4.lt
    have lL4 := hL4.two
    have lP4 := hP4.two
    have lR4 := hR4.two
    go_region_held3 (fun v => v.cell? ⟨w2.heap.size, 0, none⟩ = some (.int .i64 S) ∧ v.cell? ⟨w2.heap.size, 1, none⟩ = some (.slice a2 n2 c2))
      (first | exact l7 | exact l6 | exact l5 | exact ⟨lL4.1, lL4.2.1⟩ | go_keep)
      (first | (go_at_call 25; refine (l16DrawAny_ok b 5 12 _ (hs4.below (below_drewN (Below.refl _ _) 1)) (by omega) (by omega) (by omega)).mono ?_; rintro e w5 ⟨S6, a5, n5, c5, us, rfl, h61, h62, hn5, hsm5, ho5, hs5, hg5⟩; have hL5 := (hL4.drewN 1).grown hg5 (by simp; omega); have l5 : w5.cell? ⟨w2.heap.size, 0, none⟩ = some (.int .i64 S) ∧ w5.cell? ⟨w2.heap.size, 1, none⟩ = some (.slice a2 n2 c2) := ⟨hL5.two.1, hL5.two.2.1⟩; have hL6 := (hL5.setne (a := ⟨w.heap.size, 0, none⟩) (by show w2.heap.size ≠ w.heap.size; omega) (.int .i64 S)).setne (a := ⟨w.heap.size, 1, none⟩) (by show w2.heap.size ≠ w.heap.size; omega) (.slice a2 n2 c2); have hL7 := (hL6.setne (a := ⟨w.heap.size + 1, 0, none⟩) (by show w2.heap.size ≠ w.heap.size + 1; omega) (.int .i64 S6)).setne (a := ⟨w.heap.size + 1, 1, none⟩) (by show w2.heap.size ≠ w.heap.size + 1; omega) (.slice a5 n5 c5); have l6 := And.intro hL6.two.1 hL6.two.2.1; have l7 := And.intro hL7.two.1 hL7.two.2.1; have hP5 := (hP4.drewN 1).grown hg5 (by simp; omega); have hR5 := (hR4.drewN 1).grown hg5 (by simp; omega); have lP5 := hP5.two; have lR5 := hR5.two; have lR6 := ((hR5.setne (a := ⟨w.heap.size, 0, none⟩) (by show w.heap.size + 1 ≠ w.heap.size; omega) (.int .i64 S)).setne (a := ⟨w.heap.size, 1, none⟩) (by show w.heap.size + 1 ≠ w.heap.size; omega) (.slice a2 n2 c2)).two))
    all_goals
      have hB5 := below_grown (below_drewN hB4 1) hg5 (by omega)
      have ho5' := (ho4.drewN 1).grown hg5 (fun g e => by have := ho4.lo g e; simp; omega)
      have lP := hP5.two
      have lR := hR5.two
      go_wp2
    all_goals
      refine bodyPost_ret (v := .tuple #[bAgg S a2 n2 c2, bAgg S6 a5 n5 c5]) (by simp [results, Tryz.results5, go_sem, lP, lR]) rfl ⟨S, a2, n2, c2, ys, S6, a5, n5, c5, us, rfl, hS1, hS2, hn2, hsm, by omega, by omega, by omega, hsm5, ?_, ?_, ?_⟩
      · exact (((((ho5'.setlo (by simp; omega) _).setlo (by simp; omega) _).setlo (by simp; omega) _).setlo (by simp; omega) _)).mono (by omega)
      · exact (((((ho5.setlo (by simp; omega) _).setlo (by simp; omega) _).setlo (by simp; omega) _).setlo (by simp; omega) _)).mono (by simp; omega)
      · exact (((hB5.setCell (by simp) _).setCell (by simp) _).setCell (by simp) _).setCell (by simp) _
  | true =>
    have hbq : (2 ≤ S ∧ S ≤ 6) ∧ ys.length ≤ 30 := ⟨(isBr_let hbr).1, (isBr_let hbr).2.1⟩
    go_wp2_with fail
    refine (l01Next_ok b 3 _ HI3.out.1 ⟨by omega, by omega⟩).mono ?_
    rintro e w4 ⟨y, rfl, _, hy, hs4, hg4⟩
    have HI4 : Hid (Src w4 b ∧ Loc w4 w2.heap.size #[.int .i64 S, .slice a2 n2 c2] 26 ∧ Loc w4 w.heap.size #[.int .i64 0, .slice none 0 0] 26 ∧ Loc w4 (w.heap.size + 1) #[.int .i64 0, .slice none 0 0] 26 ∧ Own w4 w1.heap.size a2 n2 c2 ys ∧ Below w.heap.size w w4) := by
      obtain ⟨q1, q2, q3, q4, q5, q6⟩ := HI3.out
      exact Lib.hid ⟨hs4, q2.grown hg4 (by simp; omega), q3.grown hg4 (by simp; omega), q4.grown hg4 (by simp; omega), q5.grown hg4 (fun g e => by have := q5.lo g e; simp; omega), below_grown q6 hg4 (by omega)⟩
    clear hg4 HI3 hs4
    by_cases hy0 : 0 < y
    · have hd : decide (0 < y) = true := by simpa using hy0
      go_upto_region 4 with fail
      obtain ⟨hs4, hL4, hP4, hR4, ho4, hB4⟩ := HI4.out
      have hz4 := hL4.lt
      have lL4 := hL4.two
      have lP4 := hP4.two
      have lR4 := hR4.two
      obtain ⟨N, rfl⟩ : ∃ N : Nat, S = N := ⟨S.toNat, by omega⟩
      have hNb : 2 ≤ N ∧ N ≤ 6 := by have := hbq.1; omega
      have hnb : n2 ≤ 30 := by have := hbq.2; have := ho4.row.len; omega
      go_region_held3 (fun v => v.cell? ⟨w2.heap.size, 0, none⟩ = some (.int .i64 N) ∧ v.cell? ⟨w2.heap.size, 1, none⟩ = some (.slice a2 n2 c2))
        (first | exact l7 | exact l6 | exact l5 | exact ⟨lL4.1, lL4.2.1⟩ | go_keep)
        (first | (go_at_call 28; refine (l16Other_ok b N a2 n2 c2 ys _ (hs4.below (below_drewN (Below.refl _ _) 1)) (by omega) (ho4.row.drewN 1) (by omega) hsm).mono ?_; rintro e w5 ⟨a5, n5, c5, us, rfl, hn5, hsm5, ho5, hs5, hg5⟩; have hL5 := (hL4.drewN 1).grown hg5 (by simp; omega); have l5 : w5.cell? ⟨w2.heap.size, 0, none⟩ = some (.int .i64 N) ∧ w5.cell? ⟨w2.heap.size, 1, none⟩ = some (.slice a2 n2 c2) := ⟨hL5.two.1, hL5.two.2.1⟩; have hL6 := (hL5.setne (a := ⟨w.heap.size, 0, none⟩) (by show w2.heap.size ≠ w.heap.size; omega) (.int .i64 N)).setne (a := ⟨w.heap.size, 1, none⟩) (by show w2.heap.size ≠ w.heap.size; omega) (.slice a2 n2 c2); have hL7 := (hL6.setne (a := ⟨w.heap.size + 1, 0, none⟩) (by show w2.heap.size ≠ w.heap.size + 1; omega) (.int .i64 N)).setne (a := ⟨w.heap.size + 1, 1, none⟩) (by show w2.heap.size ≠ w.heap.size + 1; omega) (.slice a5 n5 c5); have l6 := And.intro hL6.two.1 hL6.two.2.1; have l7 := And.intro hL7.two.1 hL7.two.2.1; have hP5 := (hP4.drewN 1).grown hg5 (by simp; omega); have hR5 := (hR4.drewN 1).grown hg5 (by simp; omega); have lP5 := hP5.two; have lR5 := hR5.two; have lR6 := ((hR5.setne (a := ⟨w.heap.size, 0, none⟩) (by show w.heap.size + 1 ≠ w.heap.size; omega) (.int .i64 N)).setne (a := ⟨w.heap.size, 1, none⟩) (by show w.heap.size + 1 ≠ w.heap.size; omega) (.slice a2 n2 c2)).two))
      all_goals
        have hB5 := below_grown (below_drewN hB4 1) hg5 (by omega)
        have ho5' := (ho4.drewN 1).grown hg5 (fun g e => by have := ho4.lo g e; simp; omega)
        have lP := hP5.two
        have lR := hR5.two
        go_wp2
      all_goals
        refine bodyPost_ret (v := .tuple #[bAgg N a2 n2 c2, bAgg N a5 n5 c5]) (by simp [results, Tryz.results5, go_sem, lP, lR]) rfl ⟨N, a2, n2, c2, ys, N, a5, n5, c5, us, rfl, hS1, hS2, hn2, hsm, by omega, by omega, by omega, hsm5, ?_, ?_, ?_⟩
        · exact (((((ho5'.setlo (by simp; omega) _).setlo (by simp; omega) _).setlo (by simp; omega) _).setlo (by simp; omega) _)).mono (by omega)
        · exact (((((ho5.setlo (by simp; omega) _).setlo (by simp; omega) _).setlo (by simp; omega) _).setlo (by simp; omega) _)).mono (by simp; omega)
        · exact (((hB5.setCell (by simp) _).setCell (by simp) _).setCell (by simp) _).setCell (by simp) _
    · have hd : decide (0 < y) = false := by simpa using hy0
      go_upto_region 5 with fail
      obtain ⟨hs4, hL4, hP4, hR4, ho4, hB4⟩ := HI4.out
      have hz4 := hL4.lt
      have lL4 := hL4.two
      have lP4 := hP4.two
      have lR4 := hR4.two
      go_region_held3 (fun v => v.cell? ⟨w2.heap.size, 0, none⟩ = some (.int .i64 S) ∧ v.cell? ⟨w2.heap.size, 1, none⟩ = some (.slice a2 n2 c2))
        (first | exact l7 | exact l6 | exact l5 | exact ⟨lL4.1, lL4.2.1⟩ | go_keep)
        (first | (go_at_call 25; refine (l16DrawAny_ok b 5 12 _ (hs4.below (below_drewN (Below.refl _ _) 1)) (by omega) (by omega) (by omega)).mono ?_; rintro e w5 ⟨S6, a5, n5, c5, us, rfl, h61, h62, hn5, hsm5, ho5, hs5, hg5⟩; have hL5 := (hL4.drewN 1).grown hg5 (by simp; omega); have l5 : w5.cell? ⟨w2.heap.size, 0, none⟩ = some (.int .i64 S) ∧ w5.cell? ⟨w2.heap.size, 1, none⟩ = some (.slice a2 n2 c2) := ⟨hL5.two.1, hL5.two.2.1⟩; have hL6 := (hL5.setne (a := ⟨w.heap.size, 0, none⟩) (by show w2.heap.size ≠ w.heap.size; omega) (.int .i64 S)).setne (a := ⟨w.heap.size, 1, none⟩) (by show w2.heap.size ≠ w.heap.size; omega) (.slice a2 n2 c2); have hL7 := (hL6.setne (a := ⟨w.heap.size + 1, 0, none⟩) (by show w2.heap.size ≠ w.heap.size + 1; omega) (.int .i64 S6)).setne (a := ⟨w.heap.size + 1, 1, none⟩) (by show w2.heap.size ≠ w.heap.size + 1; omega) (.slice a5 n5 c5); have l6 := And.intro hL6.two.1 hL6.two.2.1; have l7 := And.intro hL7.two.1 hL7.two.2.1; have hP5 := (hP4.drewN 1).grown hg5 (by simp; omega); have hR5 := (hR4.drewN 1).grown hg5 (by simp; omega); have lP5 := hP5.two; have lR5 := hR5.two; have lR6 := ((hR5.setne (a := ⟨w.heap.size, 0, none⟩) (by show w.heap.size + 1 ≠ w.heap.size; omega) (.int .i64 S)).setne (a := ⟨w.heap.size, 1, none⟩) (by show w.heap.size + 1 ≠ w.heap.size; omega) (.slice a2 n2 c2)).two))
      all_goals
        have hB5 := below_grown (below_drewN hB4 1) hg5 (by omega)
        have ho5' := (ho4.drewN 1).grown hg5 (fun g e => by have := ho4.lo g e; simp; omega)
        have lP := hP5.two
        have lR := hR5.two
        go_wp2
      all_goals
        refine bodyPost_ret (v := .tuple #[bAgg S a2 n2 c2, bAgg S6 a5 n5 c5]) (by simp [results, Tryz.results5, go_sem, lP, lR]) rfl ⟨S, a2, n2, c2, ys, S6, a5, n5, c5, us, rfl, hS1, hS2, hn2, hsm, by omega, by omega, by omega, hsm5, ?_, ?_, ?_⟩
        · exact (((((ho5'.setlo (by simp; omega) _).setlo (by simp; omega) _).setlo (by simp; omega) _).setlo (by simp; omega) _)).mono (by omega)
        · exact (((((ho5.setlo (by simp; omega) _).setlo (by simp; omega) _).setlo (by simp; omega) _).setlo (by simp; omega) _)).mono (by simp; omega)
        · exact (((hB5.setCell (by simp) _).setCell (by simp) _).setCell (by simp) _).setCell (by simp) _
end Go.Proofs.YtdkpalllfekiiaaGreat
