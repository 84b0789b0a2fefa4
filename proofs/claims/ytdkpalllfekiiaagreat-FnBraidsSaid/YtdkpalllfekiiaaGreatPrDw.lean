/-
  Drawn solutions of the reference, mostly renamed: two squares.
  No condition but bounds.
-/
import Derived.Test.YtdkpalllfekiiaaGreatPrAn
namespace Go.Proofs.YtdkpalllfekiiaaGreat
set_option linter.unusedVariables false
set_option linter.unusedSimpArgs false
set_option maxRecDepth 100000
open Go.RowKit

set_option maxHeartbeats 8000000 in
theorem l02Draw_ok (M b : Nat) (w : World) (h : Src w b) (h1 : 1 ≤ M) (hM : M ≤ 12) :
    Calls Tryz.prog 95 #[.pointer (some ⟨b, 0, none⟩), .int .i64 M] w (SolD b w M) := by
  have hlt := h.lt
  have hR := Loc.new w rfl #[.slice none 0 0, .slice none 0 0] 42
  go_enter Tryz.func95, Tryz.ntmps95
  go_wp2_with fail
  refine (l02Any_ok M b _ (h.below (below_al (Below.refl _ _) _)) h1 hM).mono ?_
  rintro e w1 ⟨n, n1, nM, a1, c1, vs1, f, a1', c1', vs1', g, rfl, ho1, sf, sg, hs1, hg1⟩
  have hR1 := hR.grown hg1 (by simp; omega)
  have hG1 := grown_trans (World.grownBy_alloc w (.cells #[.slice none 0 0, .slice none 0 0] 42) (some b)) hg1
  have hz1 := hR1.lt
  obtain ⟨w2, hw2⟩ : ∃ w2, w1.alloc (.cells #[.slice a1 n c1, .slice a1' n c1'] 42) = w2 := ⟨_, rfl⟩
  have hb2 : Below w1.heap.size w1 w2 := by rw [← hw2]; exact below_al (Below.refl _ _) _
  have hO2 : Loc w2 w1.heap.size #[.slice a1 n c1, .slice a1' n c1'] 42 := by rw [← hw2]; exact Loc.new w1 rfl _ _
  have hR2 := hR1.below hb2 hz1
  have hs2 := hs1.below hb2
  have hG2 := grown_trans hG1 (grown_of_below hb2 (some b))
  have ho2 := (ho1.below hb2).mono (lo' := w.heap.size + 1) (by simp)
  have HFH : Hid (∀ q, TblS a1 n vs1 q → q < w1.heap.size) := Lib.hid ho1.f.uHi
  have HGH : Hid (∀ q, TblS a1' n vs1' q → q < w1.heap.size) := Lib.hid ho1.s.uHi
  have HW2 := Lib.hid hw2
  have SF := Lib.hid sf; have SG := Lib.hid sg
  clear hw2 ho1 hR hR1 hG1 hs1 hg1 sf sg
  go_wp2_with fail
  rw [HW2.out]
  refine (l01Next_ok b 4 _ hs2 ⟨by omega, by omega⟩).mono ?_
  rintro e w3 ⟨x, rfl, _, hx, hs3, hg3⟩
  obtain ⟨hx1, hx2⟩ := hx (by omega)
  clear hx
  have hR3 := hR2.grown hg3 (by simp; omega)
  have hO3 := hO2.grown hg3 (by simp; omega)
  have hG3 := grown_trans hG2 hg3
  have ho3 := ho2.grownb hg3 (by omega)
  have hO3l := hO3.lt
  have hR3l := hR3.lt
  clear hR2 hO2 hG2 ho2 hs2 hb2
  by_cases hx0 : 0 < x
  · have lO := hO3.two
    have tok1 : True := trivial
    go_upto_region 3 with fail
    go_region_held3 (fun w' => w'.cell? ⟨w1.heap.size, 0, none⟩ = some (.slice a1 n c1) ∧ w'.cell? ⟨w1.heap.size, 1, none⟩ = some (.slice a1' n c1'))
      (first | exact ⟨lM.1, lM.2.1⟩ | exact ⟨lC.1, lC.2.1⟩ | exact ⟨lB.1, lB.2.1⟩ | exact ⟨lO.1, lO.2.1⟩ | go_keep)
      (first
        | (go_at_call 112; have _t := tok1; refine (l01Draw_ok b n _ (hs3.below (below_drewN (Below.refl _ _) 1)) n1 (by omega)).mono ?_; rintro e w5 ⟨a5, c5, p, rfl, hp, ho5', hs5, hg5'⟩; clear _t tok1; have tok2 : True := trivial; have HP := Lib.hid hp; clear hp; have hg5 : w3.grownBy w5 (some b) := grown_trans (grown_of_below (below_drewN (Below.refl _ _) 1) (some b)) hg5'; have hO5 := hO3.grown hg5 (by simp; omega); have lB := hO5.two; have ho5 := ho3.grownb hg5 (by omega))
        | (go_at_call 111; have _t := tok2; refine (l02Rename_any n a1 a1' a5 c1 c1' c5 f g p _ ho5.f.tbl ho5.s.tbl ho5'.row SF.out SG.out HP.out n1 (by omega)).mono ?_; rintro e w6 ⟨a6, c6, vs6, f6, a6', c6', vs6', g6, rfl, ho6, sf6, sg6, hb6⟩; clear _t tok2; have hg5s := hg5.size; have hO6 := hO5.below hb6 (by omega); have lC := hO6.two; have hR6 := (hR3.grown hg5 (by simp; omega)).below hb6 (by omega); have lRr := hR6.two; have lM := ((hO6.setne (a := ⟨w.heap.size, 0, none⟩) (by show w1.heap.size ≠ w.heap.size; omega) (.slice a6 n c6)).setne (a := ⟨w.heap.size, 1, none⟩) (by show w1.heap.size ≠ w.heap.size; omega) (.slice a6' n c6')).two))
    all_goals
      have lR := hR6.two
      have hs6 := hs5.below hb6
      have hG6 := grown_trans (grown_trans hG3 hg5) (grown_of_below hb6 (some b))
      go_wp2
      exact bodyPost_ret (v := sAgg a6 n c6 a6' n c6') (by simp [results, Tryz.results95, go_sem, lR]) rfl ⟨n, n1, nM, sol_ret ho6 (by omega) hs6 hlt hG6 sf6 sg6⟩
  · have hx3 : ¬ 0 < x := hx0
    have lO := hO3.two
    have lR := hR3.two
    go_wp2
    exact bodyPost_ret (v := sAgg a1 n c1 a1' n c1') (by simp [results, Tryz.results95, go_sem, lR, lO]) rfl ⟨n, n1, nM, sol_ret ho3 (by omega) hs3 hlt hG3 SF.out SG.out⟩
end Go.Proofs.YtdkpalllfekiiaaGreat
