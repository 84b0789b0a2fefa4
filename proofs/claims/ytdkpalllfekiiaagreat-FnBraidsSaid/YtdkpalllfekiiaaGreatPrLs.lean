/-
  The reference's drawn solutions, often from a rack: two squares.
  No condition but bounds.
-/
import Derived.Test.YtdkpalllfekiiaaGreatPrLd
import Derived.Test.YtdkpalllfekiiaaGreatPrTs
import Derived.Test.YtdkpalllfekiiaaGreatPrDw
import Derived.Test.YtdkpalllfekiiaaGreatBase5
namespace Go.Proofs.YtdkpalllfekiiaaGreat
set_option linter.unusedVariables false
set_option linter.unusedSimpArgs false
set_option maxRecDepth 100000
open Go.RowKit

theorem TwistedSolution_k (a ap : Option Addr) (n c cp : Nat) (t : List (List Int)) (p : List Int) (w : World) (h1 : Tbl w a n t) (h2 : Row w ap n p) (sq : Sq n t) (n1 : 1 ≤ n) (hn : n ≤ 12) :
    Calls Tryz.prog 94 #[rAgg a n c, .slice ap n cp] w fun e w' => ∃ (K : Int) (b : Option Addr) (m d : Nat) (b' : Option Addr) (m' d' : Nat), e = .returned (.tuple #[sAgg b m d b' m' d', .int .i64 K]) ∧ Below w.heap.size w w' ∧
      Hid (K = 0 → m = n ∧ m' = n ∧ ∃ (vs : List SV) (f : List (List Int)) (vs' : List SV) (g : List (List Int)), OwnS w' w.heap.size b n d vs f b' n d' vs' g ∧ Sq n f ∧ Sq n g) := by
  refine (TwistedSolution_ok a ap n c cp t p w h1 h2 sq n1 hn).mono ?_
  rintro e w' (⟨k, hk, rfl, hb⟩ | ⟨a, c, vs, f, a', c', vs', g, rfl, ho, sf, sg, hb⟩)
  · exact ⟨k, none, 0, 0, none, 0, 0, rfl, hb, Lib.hid fun e => absurd e hk⟩
  · exact ⟨0, a, n, c, a', n, c', rfl, hb, Lib.hid fun _ => ⟨rfl, rfl, vs, f, vs', g, ho, sf, sg⟩⟩

theorem sold_alloc {b n : Nat} {w w' : World} {e : Ending} (h : SolDn b w n e w') (o : Obj) : SolDn b w n e (w'.alloc o) := by
  obtain ⟨a, c, vs, f, a', c', vs', g, he, ho, sf, sg, hs, hg⟩ := h
  exact ⟨a, c, vs, f, a', c', vs', g, he, ⟨ho.f.alloc o, ho.s.alloc o, ho.ap⟩, sf, sg, hs.below (below_al (Below.refl _ _) o), grown_alloc hg o⟩
set_option maxHeartbeats 16000000 in
theorem l06Draw_ok (M b : Nat) (w : World) (h : Src w b) (h1 : 1 ≤ M) (hM : M ≤ 12) :
    Calls Tryz.prog 76 #[.pointer (some ⟨b, 0, none⟩), .int .i64 M] w (SolD b w M) := by
  have hlt := h.lt
  have hR := Loc.new w rfl #[.slice none 0 0, .slice none 0 0] 42
  go_enter Tryz.func76, Tryz.ntmps76
  go_wp2_with fail
  refine (l01Next_ok b 3 _ (h.below (below_al (Below.refl _ _) _)) ⟨by omega, by omega⟩).mono ?_
  rintro e w1 ⟨x, rfl, _, hx, hs1, hg1⟩
  obtain ⟨hx1, hx2⟩ := hx (by omega)
  have hR1 := hR.grown hg1 (by simp; omega)
  have hG1 := grown_trans (World.grownBy_alloc w (.cells #[.slice none 0 0, .slice none 0 0] 42) (some b)) hg1
  have hz1 := hR1.lt
  clear hx hR hg1
  have hx3 : x = 0 ∨ x = 1 ∨ x = 2 := by omega
  clear hx1 hx2
  rcases hx3 with rfl | rfl | rfl
  · go_wp2_with fail
    refine (l03Draw_ok M b _ hs1 h1 hM).mono ?_
    rintro e w2 ⟨n, a2, c2, vs2, t, n1, nM, rfl, ho2, sq, hs2, hg2⟩
    have hR2 := hR1.grown hg2 (by simp; omega)
    have hG2 := grown_trans hG1 hg2
    have hz2 := hR2.lt
    go_wp2_with fail
    refine (l03Solution_any a2 n c2 t _ ho2.tbl sq n1 (by omega)).mono ?_
    rintro e w3 ⟨a3, c3, vs3, a3', c3', vs3', rfl, ho3, hb3⟩
    have hR3 := hR2.below hb3 hz2
    have hG3 := grown_trans hG2 (grown_of_below hb3 (some b))
    have hs3 := hs2.below hb3
    have lR := hR3.two
    go_wp2
    exact bodyPost_ret (v := sAgg a3 n c3 a3' n c3') (by simp [results, Tryz.results76, go_sem, lR]) rfl ⟨n, n1, nM, sol_ret ho3 hz2 hs3 hlt hG3 sq (cst_sq n)⟩
  · go_wp2_with fail
    refine (l03Draw_ok M b _ hs1 h1 hM).mono ?_
    rintro e w2 ⟨n, a2, c2, vs2, t, n1, nM, rfl, ho2, sq, hs2, hg2⟩
    have hR2 := hR1.grown hg2 (by simp; omega)
    have hG2 := grown_trans hG1 hg2
    have hz2 := hR2.lt
    have SQ := Lib.hid sq
    obtain ⟨w3, hw3⟩ : ∃ w3, w2.alloc (.cells #[.slice a2 n c2] 106) = w3 := ⟨_, rfl⟩
    have hb3 : Below w2.heap.size w2 w3 := by rw [← hw3]; exact below_al (Below.refl _ _) _
    have hA3 : Loc w3 w2.heap.size #[.slice a2 n c2] 106 := by rw [← hw3]; exact Loc.new w2 rfl _ _
    have HW3 := Lib.hid hw3
    have hR3 := hR2.below hb3 hz2
    have hG3 := grown_trans hG2 (grown_of_below hb3 (some b))
    have hs3 := hs2.below hb3
    have t3 := ho2.tbl.below hb3
    clear hw3 sq ho2 hs2 hg2 hR2 hG2 hR1 hG1 hs1
    obtain ⟨bt, ot, ar, nr, cr, rfl, lt3, g3, r3, _⟩ := t3.2 0 (by omega)
    obtain rfl : nr = n := by rw [r3.len]; exact SQ.out.row (by omega)
    rw [Nat.add_zero] at g3
    have lA := hA3.one
    have hz3 := hA3.lt
    have zn : (0 : Int) < (nr : Int) := by omega
    have zn2 : 0 < nr := by omega
    go_wp2
    try rw [HW3.out]
    go_region_held3 (fun w' => w'.cell? ⟨w2.heap.size, 0, none⟩ = some (.slice (some ⟨bt, ot, none⟩) nr c2) ∧ w'.cell? ⟨bt, ot, none⟩ = some (.slice ar nr cr))
      (first | exact lM | exact l4 | exact ⟨lA.1, g3⟩ | go_keep)
      (first
        | (go_at_call 94; refine (TwistedSolution_k _ _ nr _ _ t (t.getD 0 []) ((w3.alloc (.cells #[.slice none 0 0, .slice none 0 0] 42)).drewN 1) ((t3.alloc _).drewN 1) ((r3.alloc _).drewN 1) SQ.out n1 (by omega)).mono ?_; rintro e w4 ⟨K, b4, m4, d4, b4', m4', d4', rfl, hb4, HK⟩; have kindA : True := trivial; have q4 : Below w3.heap.size w3 w4 := (below_drewN (below_al (Below.refl w3.heap.size w3) _) 1).trans (hb4.mono (by simp)); have hO4 : Loc w4 w3.heap.size #[.slice none 0 0, .slice none 0 0] 42 := ((Loc.new w3 rfl _ _).drewN 1).below hb4 (by simp); have lO4 := hO4.two; have l4 : w4.cell? ⟨w2.heap.size, 0, none⟩ = some (.slice (some ⟨bt, ot, none⟩) nr c2) ∧ w4.cell? ⟨bt, ot, none⟩ = some (.slice ar nr cr) := ⟨(hA3.below q4 hA3.lt).one.1, (q4.cell (p := ⟨bt, ot, none⟩) lt3).trans g3⟩; have lM : ((w4.setCell ⟨w3.heap.size, 0, none⟩ (.slice b4 m4 d4)).setCell ⟨w3.heap.size, 1, none⟩ (.slice b4' m4' d4')).cell? ⟨w2.heap.size, 0, none⟩ = some (.slice (some ⟨bt, ot, none⟩) nr c2) ∧ ((w4.setCell ⟨w3.heap.size, 0, none⟩ (.slice b4 m4 d4)).setCell ⟨w3.heap.size, 1, none⟩ (.slice b4' m4' d4')).cell? ⟨bt, ot, none⟩ = some (.slice ar nr cr) := ⟨cell_setne (cell_setne l4.1 (by show w2.heap.size ≠ w3.heap.size; omega) _) (by show w2.heap.size ≠ w3.heap.size; omega) _, cell_setne (cell_setne l4.2 (by show bt ≠ w3.heap.size; omega) _) (by show bt ≠ w3.heap.size; omega) _⟩)
        | (go_at_call 94; refine (TwistedSolution_k _ _ nr _ _ t (t.getD 0 []) (w3.drewN 1) (t3.drewN 1) (r3.drewN 1) SQ.out n1 (by omega)).mono ?_; rintro e w4 ⟨K, b4, m4, d4, b4', m4', d4', rfl, hb4, HK⟩; have kindB : True := trivial; have q4 : Below w3.heap.size w3 w4 := (below_drewN (Below.refl w3.heap.size w3) 1).trans hb4; have l4 : w4.cell? ⟨w2.heap.size, 0, none⟩ = some (.slice (some ⟨bt, ot, none⟩) nr c2) ∧ w4.cell? ⟨bt, ot, none⟩ = some (.slice ar nr cr) := ⟨(hA3.below q4 hA3.lt).one.1, (q4.cell (p := ⟨bt, ot, none⟩) lt3).trans g3⟩))
    all_goals
    have hR4 := hR3.below q4 (by omega)
    have hG4 := grown_trans hG3 (grown_of_below q4 (some b))
    have hs4 := hs3.below q4
    have hz4 := hR4.lt
    have hzz := q4.size
    have hb3z := hs3.lt
    all_goals first
    | (have kind := kindA
       obtain ⟨w5, hw5⟩ : ∃ w5, (w4.setCell ⟨w3.heap.size, 0, none⟩ (.slice b4 m4 d4)).setCell ⟨w3.heap.size, 1, none⟩ (.slice b4' m4' d4') = w5 := ⟨_, rfl⟩
       have hO5 : Loc w5 w3.heap.size #[.slice b4 m4 d4, .slice b4' m4' d4'] 42 := by rw [← hw5]; exact (hO4.set 0 _).set 1 _
       have hR5 : Loc w5 w.heap.size #[.slice none 0 0, .slice none 0 0] 42 := by rw [← hw5]; exact (hR4.setne (by show w.heap.size ≠ w3.heap.size; omega) _).setne (by show w.heap.size ≠ w3.heap.size; omega) _
       have hs5 : Src w5 b := by rw [← hw5]; exact (hs4.setne (by show b < w3.heap.size; omega) _).setne (by show b < w3.heap.size; omega) _
       have hG5 : w.grownBy w5 (some b) := by rw [← hw5]; exact grown_set (grown_set hG4 (.inr (by show w.heap.size ≤ w3.heap.size; omega)) _) (.inr (by show w.heap.size ≤ w3.heap.size; omega)) _
       have HS5 : Hid (∀ (lo : Nat) (vs : List SV) (f : List (List Int)) (vs' : List SV) (g : List (List Int)), w3.heap.size < lo → OwnS w4 lo b4 nr d4 vs f b4' nr d4' vs' g → OwnS w5 lo b4 nr d4 vs f b4' nr d4' vs' g) := Lib.hid fun lo vs f vs' g hl ho => by
         rw [← hw5]
         exact ⟨(ho.f.setlo (by show w3.heap.size < lo; omega) _).setlo (by show w3.heap.size < lo; omega) _, (ho.s.setlo (by show w3.heap.size < lo; omega) _).setlo (by show w3.heap.size < lo; omega) _, ho.ap⟩
       have hz5 := hR5.lt
       have hloA : w3.heap.size < ((w3.alloc (.cells #[.slice none 0 0, .slice none 0 0] 42)).drewN 1).heap.size := by simp
       try rw [hw5]
       clear l4 lM hb4 hw5 hO4 lO4 hR4 hs4 hG4
       by_cases hK : K = 0
       · subst hK
         obtain ⟨rfl, rfl, vs4, f4, vs4', g4, ho4, sf, sg⟩ := HK.out rfl
         have lO := hO5.two
         have lR := hR5.two
         go_wp2
         exact bodyPost_ret (v := sAgg b4 m4' d4 b4' m4' d4') (by simp [results, Tryz.results76, go_sem, lR, lO]) rfl ⟨m4', n1, nM, sol_ret (HS5.out _ _ _ _ _ hloA ho4) (by omega) hs5 hlt hG5 sf sg⟩
       · have hK2 : (K == 0) = false := by simpa using hK
         go_wp2_with fail
         refine (l02Draw_ok M b _ hs5 h1 hM).mono ?_
         rintro e w6 ⟨n6, n61, n6M, a6, c6, vs6, f6, a6', c6', vs6', g6, rfl, ho6, sf, sg, hs6, hg6⟩
         have hR6 := hR5.grown hg6 (by simp; omega)
         have lR := hR6.two
         have hG6 := grown_trans hG5 hg6
         go_wp2
         exact bodyPost_ret (v := sAgg a6 n6 c6 a6' n6 c6') (by simp [results, Tryz.results76, go_sem, lR]) rfl ⟨n6, n61, n6M, sol_ret ho6 hz5 hs6 hlt hG6 sf sg⟩)
    | (have kind := kindB
       clear l4 hb4
       by_cases hK : K = 0
       · subst hK
         obtain ⟨rfl, rfl, vs4, f4, vs4', g4, ho4, sf, sg⟩ := HK.out rfl
         have hb5 : Below w4.heap.size w4 (w4.alloc (.cells #[.slice b4 m4' d4, .slice b4' m4' d4'] 42)) := below_al (Below.refl _ _) _
         have hO5 := Loc.new w4 rfl #[.slice b4 m4' d4, .slice b4' m4' d4'] 42
         have lO := hO5.two
         have lR := hR4.two
         have hF : Loc (((w4.setCell ⟨w.heap.size, 0, none⟩ (.slice b4 m4' d4)).setCell ⟨w.heap.size, 1, none⟩ (.slice b4' m4' d4')).alloc (.cells #[.slice b4 m4' d4, .slice b4' m4' d4'] 42)) w.heap.size #[.slice b4 m4' d4, .slice b4' m4' d4'] 42 := ((hR4.set 0 _).set 1 _).alloc _
         have lF := hF.two
         go_wp2
         exact bodyPost_ret (v := sAgg b4 m4' d4 b4' m4' d4') (by simp [results, Tryz.results76, go_sem, lF]) rfl ⟨m4', n1, nM, sold_alloc (sol_ret ho4 (by show w.heap.size < w3.heap.size; omega) hs4 hlt hG4 sf sg) _⟩
       · have hK2 : (K == 0) = false := by simpa using hK
         have hb5 : Below w4.heap.size w4 (w4.alloc (.cells #[.slice b4 m4 d4, .slice b4' m4' d4'] 42)) := below_al (Below.refl _ _) _
         have hR5 := hR4.below hb5 hz4
         have hz5 := hR5.lt
         have hG5 := grown_trans hG4 (grown_of_below hb5 (some b))
         have hs5 := hs4.below hb5
         go_wp2_with fail
         refine (l02Draw_ok M b _ hs5 h1 hM).mono ?_
         rintro e w6 ⟨n6, n61, n6M, a6, c6, vs6, f6, a6', c6', vs6', g6, rfl, ho6, sf, sg, hs6, hg6⟩
         have hR6 := hR5.grown hg6 (by simp; omega)
         have lR := hR6.two
         have hG6 := grown_trans hG5 hg6
         go_wp2
         exact bodyPost_ret (v := sAgg a6 n6 c6 a6' n6 c6') (by simp [results, Tryz.results76, go_sem, lR]) rfl ⟨n6, n61, n6M, sol_ret ho6 hz5 hs6 hlt hG6 sf sg⟩)
  · go_wp2_with fail
    refine (l02Draw_ok M b _ hs1 h1 hM).mono ?_
    rintro e w6 ⟨n6, n61, n6M, a6, c6, vs6, f6, a6', c6', vs6', g6, rfl, ho6, sf, sg, hs6, hg6⟩
    have hR6 := hR1.grown hg6 (by simp; omega)
    have lR := hR6.two
    have hG6 := grown_trans hG1 hg6
    go_wp2
    exact bodyPost_ret (v := sAgg a6 n6 c6 a6' n6 c6') (by simp [results, Tryz.results76, go_sem, lR]) rfl ⟨n6, n61, n6M, sol_ret ho6 hz1 hs6 hlt hG6 sf sg⟩
end Go.Proofs.YtdkpalllfekiiaaGreat
