/-
  The walk of the law of BraidPeriod: it answers true.
  No condition.
-/
import Derived.Test.YtfmcaflefiapoaaPerS
import Derived.Test.YtfmcaflefiapoaaBase
import Derived.Deep.RegionHeld3
namespace Go.Proofs.Ytfmcaflefiapoaa
set_option maxRecDepth 100000
set_option linter.unusedVariables false
set_option linter.unusedSimpArgs false
open Go.RowKit

set_option maxHeartbeats 2000000 in
theorem law_Bp_big0 (w : World) (a_0 : Option Addr) (n_0 : Nat) (c_0 : Nat) (xss_0 : List (List Int)) (a'_0 : Option Addr) (n'_0 : Nat) (c'_0 : Nat) (yss_0 : List (List Int)) (s_1 : Int) (a_1 : Option Addr) (n_1 : Nat) (c_1 : Nat) (xs_1 : List Int) (h0_0 : Sol w a_0 n_0 xss_0 a'_0 n'_0 yss_0) (h0_1 : n_0 ≤ 9223372036854775807 ∧ n'_0 ≤ 9223372036854775807) (h1_0 : I64 s_1) (h1_1 : Row w a_1 n_1 xs_1) (h1_2 : n_1 ≤ 9223372036854775807) (h1_3 : I64s xs_1)  (hbig : 1048576 < (n_0 + tot xss_0 + n'_0 + tot yss_0)) : Calls Try.prog 6 #[sAgg a_0 n_0 c_0 a'_0 n'_0 c'_0, bAgg s_1 a_1 n_1 c_1] w fun e w' => e = .returned (.bool true) ∧ Below w.heap.size w w' := by
  go_enter Try.func6, Try.ntmps6
  have hB : Below w.heap.size w w := Below.refl _ _
  go_wp2_with fail
  refine (szSol_no' (((h0_0.below hB).alloc _).alloc _) (by omega) (by omega) (by omega) (by omega)).mono ?_
  rintro e w1 ⟨rfl, hbw1⟩
  have zw1 : w.heap.size + 2 ≤ w1.heap.size := by have := hbw1.size; simpa using this
  have hLP0 : Loc _ (w.heap.size) _ _ := ((Loc.new _ (by simp) _ _).alloc _).below hbw1 (by first | omega | (simp; done) | (simp; omega))
  have lP0 := hLP0.cells2
  have yP0 := hLP0.lt
  have hLP1 : Loc _ (w.heap.size + 1) _ _ := (Loc.new _ (by simp) _ _).below hbw1 (by first | omega | (simp; done) | (simp; omega))
  have lP1 := hLP1.cells2
  have yP1 := hLP1.lt
  replace hB := below_th (below_al (below_al hB _) _) hbw1
  go_wp2
  go_ret
  exact ⟨rfl, hB⟩

set_option maxHeartbeats 2000000 in
theorem law_Bp_big1 (w : World) (a_0 : Option Addr) (n_0 : Nat) (c_0 : Nat) (xss_0 : List (List Int)) (a'_0 : Option Addr) (n'_0 : Nat) (c'_0 : Nat) (yss_0 : List (List Int)) (s_1 : Int) (a_1 : Option Addr) (n_1 : Nat) (c_1 : Nat) (xs_1 : List Int) (h0_0 : Sol w a_0 n_0 xss_0 a'_0 n'_0 yss_0) (h0_1 : n_0 ≤ 9223372036854775807 ∧ n'_0 ≤ 9223372036854775807) (h1_0 : I64 s_1) (h1_1 : Row w a_1 n_1 xs_1) (h1_2 : n_1 ≤ 9223372036854775807) (h1_3 : I64s xs_1)  (hpre : (n_0 + tot xss_0 + n'_0 + tot yss_0) ≤ 1048576) (hbig : 1048576 < (n_0 + tot xss_0 + n'_0 + tot yss_0) + (n_1)) : Calls Try.prog 6 #[sAgg a_0 n_0 c_0 a'_0 n'_0 c'_0, bAgg s_1 a_1 n_1 c_1] w fun e w' => e = .returned (.bool true) ∧ Below w.heap.size w w' := by
  go_enter Try.func6, Try.ntmps6
  have hB : Below w.heap.size w w := Below.refl _ _
  go_wp2_with fail
  refine (szSol_ok' (((h0_0.below hB).alloc _).alloc _) (by omega) (by omega)).mono ?_
  rintro e w1 ⟨rfl, hbw1⟩
  have zw1 : w.heap.size + 2 ≤ w1.heap.size := by have := hbw1.size; simpa using this
  have hLP0 : Loc _ (w.heap.size) _ _ := ((Loc.new _ (by simp) _ _).alloc _).below hbw1 (by first | omega | (simp; done) | (simp; omega))
  have lP0 := hLP0.cells2
  have yP0 := hLP0.lt
  have hLP1 : Loc _ (w.heap.size + 1) _ _ := (Loc.new _ (by simp) _ _).below hbw1 (by first | omega | (simp; done) | (simp; omega))
  have lP1 := hLP1.cells2
  have yP1 := hLP1.lt
  replace hB := below_th (below_al (below_al hB _) _) hbw1
  go_wp2_with fail
  refine (szBraid_no' (h1_1.below hB) (by omega) (by omega) (by omega) (by omega)).mono ?_
  rintro e w2 ⟨rfl, hbw2⟩
  have zw2 : w1.heap.size ≤ w2.heap.size := hbw2.size
  replace hLP0 := hLP0.below hbw2 hLP0.lt
  replace lP0 := hLP0.cells2
  replace yP0 := hLP0.lt
  replace hLP1 := hLP1.below hbw2 hLP1.lt
  replace lP1 := hLP1.cells2
  replace yP1 := hLP1.lt
  replace hB := below_th hB hbw2
  go_wp2
  go_ret
  exact ⟨rfl, hB⟩

set_option maxHeartbeats 8000000 in
theorem law_Bp_small (w : World) (a_0 : Option Addr) (n_0 : Nat) (c_0 : Nat) (xss_0 : List (List Int)) (a'_0 : Option Addr) (n'_0 : Nat) (c'_0 : Nat) (yss_0 : List (List Int)) (s_1 : Int) (a_1 : Option Addr) (n_1 : Nat) (c_1 : Nat) (xs_1 : List Int) (h0_0 : Sol w a_0 n_0 xss_0 a'_0 n'_0 yss_0) (h0_1 : n_0 ≤ 9223372036854775807 ∧ n'_0 ≤ 9223372036854775807) (h1_0 : I64 s_1) (h1_1 : Row w a_1 n_1 xs_1) (h1_2 : n_1 ≤ 9223372036854775807) (h1_3 : I64s xs_1) (hs0 : (n_0 + tot xss_0 + n'_0 + tot yss_0) + (n_1) ≤ 1048576) : Calls Try.prog 6 #[sAgg a_0 n_0 c_0 a'_0 n'_0 c'_0, bAgg s_1 a_1 n_1 c_1] w fun e w' => e = .returned (.bool true) ∧ Below w.heap.size w w' := by
  obtain ⟨rd, code, HS, HI⟩ : ∃ (rd : Int) (code : Int), Hid (∀ (w' : World) (a_0q : Option Addr) (c_0q : Nat) (a'_0q : Option Addr) (c'_0q : Nat) (a_1q : Option Addr) (c_1q : Nat), Sol w' a_0q n_0 xss_0 a'_0q n'_0 yss_0 → Row w' a_1q n_1 xs_1 → Calls Try.prog 33 #[sAgg a_0q n_0 c_0q a'_0q n'_0 c'_0q, bAgg s_1 a_1q n_1 c_1q] w' (RetI w' rd code)) ∧ Hid (∀ (w' : World) (a_0q : Option Addr) (c_0q : Nat) (a'_0q : Option Addr) (c'_0q : Nat) (a_1q : Option Addr) (c_1q : Nat), Sol w' a_0q n_0 xss_0 a'_0q n'_0 yss_0 → Row w' a_1q n_1 xs_1 → Calls Try.prog 34 #[sAgg a_0q n_0 c_0q a'_0q n'_0 c'_0q, bAgg s_1 a_1q n_1 c_1q] w' (RetI w' rd code)) :=
    ⟨_, _, Lib.hid fun w' a_0q c_0q a'_0q c'_0q a_1q c_1q r0 r1 => spec_Bp_l a_0q n_0 c_0q xss_0 a'_0q n'_0 c'_0q yss_0 s_1 a_1q n_1 c_1q xs_1 w' r0 h0_1 h1_0 r1 h1_2 h1_3, Lib.hid fun w' a_0q c_0q a'_0q c'_0q a_1q c_1q r0 r1 => impl_Bp_l a_0q n_0 c_0q xss_0 a'_0q n'_0 c'_0q yss_0 s_1 a_1q n_1 c_1q xs_1 w' r0 h0_1 h1_0 r1 h1_2 h1_3⟩
  have hne : (code != code) = false := by simp
  have hne0 : (rd != rd) = false := by simp
  go_enter Try.func6, Try.ntmps6
  have hB : Below w.heap.size w w := Below.refl _ _
  go_wp2_with fail
  refine (szSol_ok' (((h0_0.below hB).alloc _).alloc _) (by omega) (by omega)).mono ?_
  rintro e w1 ⟨rfl, hbw1⟩
  have zw1 : w.heap.size + 2 ≤ w1.heap.size := by have := hbw1.size; simpa using this
  have hLP0 : Loc _ (w.heap.size) _ _ := ((Loc.new _ (by simp) _ _).alloc _).below hbw1 (by first | omega | (simp; done) | (simp; omega))
  have lP0 := hLP0.cells2
  have yP0 := hLP0.lt
  have hLP1 : Loc _ (w.heap.size + 1) _ _ := (Loc.new _ (by simp) _ _).below hbw1 (by first | omega | (simp; done) | (simp; omega))
  have lP1 := hLP1.cells2
  have yP1 := hLP1.lt
  replace hB := below_th (below_al (below_al hB _) _) hbw1
  go_wp2_with fail
  refine (szBraid_ok' (h1_1.below hB) (by omega) (by omega)).mono ?_
  rintro e w2 ⟨rfl, hbw2⟩
  have zw2 : w1.heap.size ≤ w2.heap.size := hbw2.size
  replace hLP0 := hLP0.below hbw2 hLP0.lt
  replace lP0 := hLP0.cells2
  replace yP0 := hLP0.lt
  replace hLP1 := hLP1.below hbw2 hLP1.lt
  replace lP1 := hLP1.cells2
  replace yP1 := hLP1.lt
  replace hB := below_th hB hbw2
  go_wp2_with fail
  have tok1 : True := trivial
  go_region_held3 (fun w' => (w'.cell? ⟨w.heap.size, 0, none⟩ = some (.slice a_0 n_0 c_0) ∧ w'.cell? ⟨w.heap.size, 1, none⟩ = some (.slice a'_0 n'_0 c'_0)) ∧ (w'.cell? ⟨w.heap.size + 1, 0, none⟩ = some (.int .i64 s_1) ∧ w'.cell? ⟨w.heap.size + 1, 1, none⟩ = some (.slice a_1 n_1 c_1)))
    (first | exact ⟨⟨lP0_w5.1, lP0_w5.2.1⟩, ⟨lP1_w5.1, lP1_w5.2.1⟩⟩ | exact ⟨⟨lP0_w4.1, lP0_w4.2.1⟩, ⟨lP1_w4.1, lP1_w4.2.1⟩⟩ | exact ⟨⟨lP0_w3.1, lP0_w3.2.1⟩, ⟨lP1_w3.1, lP1_w3.2.1⟩⟩ | exact ⟨⟨lP0.1, lP0.2.1⟩, ⟨lP1.1, lP1.2.1⟩⟩)
    (first
      | (go_at_call 16; have _t := tok1; clear _t tok1; have tok2 : True := trivial; refine (toSol_u ((h0_0.below hB).drewN 1) (by omega)).mono ?_; rintro e w3 ⟨a_0p, c_0p, a'_0p, c'_0p, vs_p, vs'_p, rfl, hop0_w3, hbw3⟩; have zw3 : w2.heap.size ≤ w3.heap.size := hbw3.size; have hrw3 : Below w2.heap.size w2 w3 := (Below.drew (Below.refl _ _)).trans hbw3; have hLP0_w3 := hLP0.below hrw3 hLP0.lt; have lP0_w3 := hLP0_w3.cells2; have hLP1_w3 := hLP1.below hrw3 hLP1.lt; have lP1_w3 := hLP1_w3.cells2; have lop0 : ∀ g, SolS a_0p n_0 vs_p a'_0p n'_0 vs'_p g → w2.heap.size ≤ g := hop0_w3.uLo; have hip0 : ∀ g, SolS a_0p n_0 vs_p a'_0p n'_0 vs'_p g → g < w3.heap.size := hop0_w3.uHi)
      | (go_at_call 18; have _t := tok2; clear _t tok2; have tok3 : True := trivial; refine (toBraid_u (h1_1.below (below_th hB hrw3)) (by omega)).mono ?_; rintro e w4 ⟨a_1p, c_1p, rfl, hop1_w4, hbw4⟩; have zw4 : w3.heap.size ≤ w4.heap.size := hbw4.size; have hrw4 : Below w2.heap.size w2 w4 := below_th hrw3 hbw4; have hLP0_w4 := hLP0.below hrw4 hLP0.lt; have lP0_w4 := hLP0_w4.cells2; have hLP1_w4 := hLP1.below hrw4 hLP1.lt; have lP1_w4 := hLP1_w4.cells2; have hop0_w4 := hop0_w3.below hbw4; have lop1 : ∀ g, RowS a_1p g → w3.heap.size ≤ g := hop1_w4.uLo; have hip1 : ∀ g, RowS a_1p g → g < w4.heap.size := hop1_w4.uHi)
      | (go_at_call 33; have _t := tok3; clear _t tok3; have tok4 : True := trivial; refine (HS.out _ _ _ _ _ _ _ hop0_w4.sol hop1_w4.row).mono ?_; rintro e w5 ⟨rfl, hbw5⟩; have zw5 : w4.heap.size ≤ w5.heap.size := hbw5.size; have hrw5 : Below w2.heap.size w2 w5 := below_th hrw4 hbw5; have hLP0_w5 := hLP0.below hrw5 hLP0.lt; have lP0_w5 := hLP0_w5.cells2; have hLP1_w5 := hLP1.below hrw5 hLP1.lt; have lP1_w5 := hLP1_w5.cells2; have hop0_w5 := hop0_w4.below hbw5; have hop1_w5 := hop1_w4.below hbw5))
  replace hLP0 := hLP0_w5
  replace lP0 := lP0_w5
  clear hLP0_w4 lP0_w4 hLP0_w3 lP0_w3
  replace yP0 := hLP0.lt
  replace hLP1 := hLP1_w5
  replace lP1 := lP1_w5
  clear hLP1_w4 lP1_w4 hLP1_w3 lP1_w3
  replace yP1 := hLP1.lt
  have hop0 := hop0_w5
  have hop1 := hop1_w5
  replace hB := below_th hB hrw5
  clear tok4
  go_wp2_with fail
  refine (toSol_u (h0_0.below hB) (by omega)).mono ?_
  rintro e w6 ⟨a_0x, c_0x, a'_0x, c'_0x, vs_x, vs'_x, rfl, hox0, hbw6⟩
  have zw6 : w5.heap.size ≤ w6.heap.size := hbw6.size
  replace hLP0 := hLP0.below hbw6 hLP0.lt
  replace lP0 := hLP0.cells2
  replace yP0 := hLP0.lt
  replace hLP1 := hLP1.below hbw6 hLP1.lt
  replace lP1 := hLP1.cells2
  replace yP1 := hLP1.lt
  replace hB := below_th hB hbw6
  have lox0 : ∀ g, SolS a_0x n_0 vs_x a'_0x n'_0 vs'_x g → w5.heap.size ≤ g := hox0.uLo
  have hix0 : ∀ g, SolS a_0x n_0 vs_x a'_0x n'_0 vs'_x g → g < w6.heap.size := hox0.uHi
  go_wp2_with fail
  refine (toBraid_u ((h1_1.below hB).alloc _) (by omega)).mono ?_
  rintro e w7 ⟨a_1x, c_1x, rfl, hox1, hbw7⟩
  have zw7 : w6.heap.size + 1 ≤ w7.heap.size := by have := hbw7.size; simpa using this
  replace hLP0 := (hLP0.alloc _).below hbw7 (hLP0.alloc _).lt
  replace lP0 := hLP0.cells2
  replace yP0 := hLP0.lt
  replace hLP1 := (hLP1.alloc _).below hbw7 (hLP1.alloc _).lt
  replace lP1 := hLP1.cells2
  replace yP1 := hLP1.lt
  have hLX0 : Loc _ (w6.heap.size) _ _ := (Loc.new _ (by simp) _ _).below hbw7 (by first | omega | (simp; done) | (simp; omega))
  have lX0 := hLX0.cells2
  have yX0 := hLX0.lt
  replace hox0 := (hox0.alloc _).below hbw7
  replace hB := below_th (below_al hB _) hbw7
  have lox1 : ∀ g, RowS a_1x g → w6.heap.size + 1 ≤ g := fun g hg => by have := hox1.uLo g hg; simpa using this
  have hix1 : ∀ g, RowS a_1x g → g < w7.heap.size := hox1.uHi
  go_wp2_with fail
  refine (HI.out _ _ _ _ _ _ _ ((hox0.alloc _).sol) ((hox1.alloc _).row)).mono ?_
  rintro e w8 ⟨rfl, hbw8⟩
  have zw8 : w7.heap.size + 1 ≤ w8.heap.size := by have := hbw8.size; simpa using this
  replace hLP0 := (hLP0.alloc _).below hbw8 (hLP0.alloc _).lt
  replace lP0 := hLP0.cells2
  replace yP0 := hLP0.lt
  replace hLP1 := (hLP1.alloc _).below hbw8 (hLP1.alloc _).lt
  replace lP1 := hLP1.cells2
  replace yP1 := hLP1.lt
  replace hLX0 := (hLX0.alloc _).below hbw8 (hLX0.alloc _).lt
  replace lX0 := hLX0.cells2
  replace yX0 := hLX0.lt
  have hLX1 : Loc _ (w7.heap.size) _ _ := (Loc.new _ (by simp) _ _).below hbw8 (by first | omega | (simp; done) | (simp; omega))
  have lX1 := hLX1.cells2
  have yX1 := hLX1.lt
  replace hox0 := (hox0.alloc _).below hbw8
  replace hox1 := (hox1.alloc _).below hbw8
  replace hB := below_th (below_al hB _) hbw8
  go_wp2_with fail
  have tok1 : True := trivial
  go_region_held3 (fun w' => (w'.cell? ⟨w.heap.size, 0, none⟩ = some (.slice a_0 n_0 c_0) ∧ w'.cell? ⟨w.heap.size, 1, none⟩ = some (.slice a'_0 n'_0 c'_0)) ∧ (w'.cell? ⟨w6.heap.size, 0, none⟩ = some (.slice a_0x n_0 c_0x) ∧ w'.cell? ⟨w6.heap.size, 1, none⟩ = some (.slice a'_0x n'_0 c'_0x)))
    (first | exact ⟨⟨lP0_w10.1, lP0_w10.2.1⟩, ⟨lX0_w10.1, lX0_w10.2.1⟩⟩ | exact ⟨⟨lP0_w9.1, lP0_w9.2.1⟩, ⟨lX0_w9.1, lX0_w9.2.1⟩⟩ | exact ⟨⟨lP0.1, lP0.2.1⟩, ⟨lX0.1, lX0.2.1⟩⟩)
    (first
      | (go_at_call 16; have _t := tok1; clear _t tok1; have tok2 : True := trivial; refine (toSol_u ((h0_0.below hB).drewN 1) (by omega)).mono ?_; rintro e w9 ⟨a_0y, c_0y, a'_0y, c'_0y, vs_y, vs'_y, rfl, hoy0_w9, hbw9⟩; have zw9 : w8.heap.size ≤ w9.heap.size := hbw9.size; have hrw9 : Below w8.heap.size w8 w9 := (Below.drew (Below.refl _ _)).trans hbw9; have hLP0_w9 := hLP0.below hrw9 hLP0.lt; have lP0_w9 := hLP0_w9.cells2; have hLX0_w9 := hLX0.below hrw9 hLX0.lt; have lX0_w9 := hLX0_w9.cells2; have loy0 : ∀ g, SolS a_0y n_0 vs_y a'_0y n'_0 vs'_y g → w8.heap.size ≤ g := hoy0_w9.uLo; have hiy0 : ∀ g, SolS a_0y n_0 vs_y a'_0y n'_0 vs'_y g → g < w9.heap.size := hoy0_w9.uHi)
      | (go_at_call 21; have _t := tok2; clear _t tok2; have tok3 : True := trivial; refine (eqSol_u (hox0.below hrw9).sol hoy0_w9.sol (by omega)).mono ?_; rintro e w10 ⟨rfl, hbw10⟩; have zw10 : w9.heap.size ≤ w10.heap.size := hbw10.size; have hrw10 : Below w8.heap.size w8 w10 := below_th hrw9 hbw10; have hLP0_w10 := hLP0.below hrw10 hLP0.lt; have lP0_w10 := hLP0_w10.cells2; have hLX0_w10 := hLX0.below hrw10 hLX0.lt; have lX0_w10 := hLX0_w10.cells2; have hoy0_w10 := hoy0_w9.below hbw10))
  replace hLP0 := hLP0_w10
  replace lP0 := lP0_w10
  clear hLP0_w9 lP0_w9
  replace yP0 := hLP0.lt
  replace hLP1 := hLP1.below hrw10 hLP1.lt
  replace lP1 := hLP1.cells2
  replace yP1 := hLP1.lt
  replace hLX0 := hLX0_w10
  replace lX0 := lX0_w10
  clear hLX0_w9 lX0_w9
  replace yX0 := hLX0.lt
  replace hLX1 := hLX1.below hrw10 hLX1.lt
  replace lX1 := hLX1.cells2
  replace yX1 := hLX1.lt
  replace hox0 := hox0.below hrw10
  replace hox1 := hox1.below hrw10
  have hoy0 := hoy0_w10
  replace hB := below_th hB hrw10
  clear tok3
  go_wp2_with fail
  have tok1 : True := trivial
  go_region_held3 (fun w' => (w'.cell? ⟨w.heap.size + 1, 0, none⟩ = some (.int .i64 s_1) ∧ w'.cell? ⟨w.heap.size + 1, 1, none⟩ = some (.slice a_1 n_1 c_1)) ∧ (w'.cell? ⟨w7.heap.size, 0, none⟩ = some (.int .i64 s_1) ∧ w'.cell? ⟨w7.heap.size, 1, none⟩ = some (.slice a_1x n_1 c_1x)))
    (first | exact ⟨⟨lP1_w12.1, lP1_w12.2.1⟩, ⟨lX1_w12.1, lX1_w12.2.1⟩⟩ | exact ⟨⟨lP1_w11.1, lP1_w11.2.1⟩, ⟨lX1_w11.1, lX1_w11.2.1⟩⟩ | exact ⟨⟨lP1.1, lP1.2.1⟩, ⟨lX1.1, lX1.2.1⟩⟩)
    (first
      | (go_at_call 18; have _t := tok1; clear _t tok1; have tok2 : True := trivial; refine (toBraid_u ((h1_1.below hB).drewN 1) (by omega)).mono ?_; rintro e w11 ⟨a_1y, c_1y, rfl, hoy1_w11, hbw11⟩; have zw11 : w10.heap.size ≤ w11.heap.size := hbw11.size; have hrw11 : Below w10.heap.size w10 w11 := (Below.drew (Below.refl _ _)).trans hbw11; have hLP1_w11 := hLP1.below hrw11 hLP1.lt; have lP1_w11 := hLP1_w11.cells2; have hLX1_w11 := hLX1.below hrw11 hLX1.lt; have lX1_w11 := hLX1_w11.cells2; have loy1 : ∀ g, RowS a_1y g → w10.heap.size ≤ g := hoy1_w11.uLo; have hiy1 : ∀ g, RowS a_1y g → g < w11.heap.size := hoy1_w11.uHi)
      | (go_at_call 23; have _t := tok2; clear _t tok2; have tok3 : True := trivial; refine (eqBraid_u (hox1.below hrw11).row hoy1_w11.row (by omega)).mono ?_; rintro e w12 ⟨rfl, hbw12⟩; have zw12 : w11.heap.size ≤ w12.heap.size := hbw12.size; have hrw12 : Below w10.heap.size w10 w12 := below_th hrw11 hbw12; have hLP1_w12 := hLP1.below hrw12 hLP1.lt; have lP1_w12 := hLP1_w12.cells2; have hLX1_w12 := hLX1.below hrw12 hLX1.lt; have lX1_w12 := hLX1_w12.cells2; have hoy1_w12 := hoy1_w11.below hbw12))
  replace hLP0 := hLP0.below hrw12 hLP0.lt
  replace lP0 := hLP0.cells2
  replace yP0 := hLP0.lt
  replace hLP1 := hLP1_w12
  replace lP1 := lP1_w12
  clear hLP1_w11 lP1_w11
  replace yP1 := hLP1.lt
  replace hLX0 := hLX0.below hrw12 hLX0.lt
  replace lX0 := hLX0.cells2
  replace yX0 := hLX0.lt
  replace hLX1 := hLX1_w12
  replace lX1 := lX1_w12
  clear hLX1_w11 lX1_w11
  replace yX1 := hLX1.lt
  replace hox0 := hox0.below hrw12
  replace hox1 := hox1.below hrw12
  have hoy1 := hoy1_w12
  replace hB := below_th hB hrw12
  clear tok3
  go_wp2_with fail
  go_ret
  exact ⟨rfl, hB⟩

theorem law_Bp (w : World) (a_0 : Option Addr) (n_0 : Nat) (c_0 : Nat) (xss_0 : List (List Int)) (a'_0 : Option Addr) (n'_0 : Nat) (c'_0 : Nat) (yss_0 : List (List Int)) (h0_0 : Sol w a_0 n_0 xss_0 a'_0 n'_0 yss_0) (h0_1 : n_0 ≤ 9223372036854775807 ∧ n'_0 ≤ 9223372036854775807) (s_1 : Int) (a_1 : Option Addr) (n_1 : Nat) (c_1 : Nat) (xs_1 : List Int) (h1_0 : I64 s_1) (h1_1 : Row w a_1 n_1 xs_1) (h1_2 : n_1 ≤ 9223372036854775807) (h1_3 : I64s xs_1) : Calls Try.prog 6 #[sAgg a_0 n_0 c_0 a'_0 n'_0 c'_0, bAgg s_1 a_1 n_1 c_1] w fun e w' => e = .returned (.bool true) ∧ Below w.heap.size w w' := by
  refine (Classical.em ((n_0 + tot xss_0 + n'_0 + tot yss_0) ≤ 1048576)).elim (fun c0 => ?_) (fun c0 => law_Bp_big0 w a_0 n_0 c_0 xss_0 a'_0 n'_0 c'_0 yss_0 s_1 a_1 n_1 c_1 xs_1 h0_0 h0_1 h1_0 h1_1 h1_2 h1_3  (by omega))
  refine (Classical.em ((n_0 + tot xss_0 + n'_0 + tot yss_0) + (n_1) ≤ 1048576)).elim (fun c1 => ?_) (fun c1 => law_Bp_big1 w a_0 n_0 c_0 xss_0 a'_0 n'_0 c'_0 yss_0 s_1 a_1 n_1 c_1 xs_1 h0_0 h0_1 h1_0 h1_1 h1_2 h1_3  c0 (by omega))
  exact law_Bp_small w a_0 n_0 c_0 xss_0 a'_0 n'_0 c'_0 yss_0 s_1 a_1 n_1 c_1 xs_1 h0_0 h0_1 h1_0 h1_1 h1_2 h1_3  c1

end Go.Proofs.Ytfmcaflefiapoaa
