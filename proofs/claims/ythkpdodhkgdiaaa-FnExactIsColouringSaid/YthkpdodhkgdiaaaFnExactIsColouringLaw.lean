/-
  The walk of the law of IsColouring: it answers true.
  No condition.
-/
import Derived.Test.YthkpdodhkgdiaaaCheckS
import Derived.Test.YthkpdodhkgdiaaaU
import Derived.Test.YthkpdodhkgdiaaaUB
import Derived.Test.YthkpdodhkgdiaaaUS
import Derived.Test.YthkpdodhkgdiaaaOpen
import Derived.Deep.RegionHeld3
namespace Go.Proofs.Ythkpdodhkgdiaaa
set_option maxRecDepth 100000
set_option linter.unusedVariables false
set_option linter.unusedSimpArgs false
open Go.RowKit

theorem law_Col_bigr0 (w : World) (a_0 : Option Addr) (n_0 : Nat) (c_0 : Nat) (xss_0 : List (List Int)) (a'_0 : Option Addr) (n'_0 : Nat) (c'_0 : Nat) (yss_0 : List (List Int)) (s_1 : Int) (a_1 : Option Addr) (n_1 : Nat) (c_1 : Nat) (xs_1 : List Int) (a_2 : Option Addr) (n_2 : Nat) (c_2 : Nat) (xs_2 : List Int) (h0_0 : Sol w a_0 n_0 xss_0 a'_0 n'_0 yss_0) (h0_1 : n_0 ≤ 9223372036854775807 ∧ n'_0 ≤ 9223372036854775807) (h1_0 : I64 s_1) (h1_1 : Row w a_1 n_1 xs_1) (h1_2 : n_1 ≤ 9223372036854775807) (h1_3 : I64s xs_1) (h2_0 : Row w a_2 n_2 xs_2) (h2_1 : n_2 ≤ 9223372036854775807) (h2_2 : I64s xs_2)  (hbig : 1048576 < n_2) : Calls Try.prog 13 #[sAgg a_0 n_0 c_0 a'_0 n'_0 c'_0, bAgg s_1 a_1 n_1 c_1, .slice a_2 n_2 c_2] w fun e w' => e = .returned (.bool true) ∧ Below w.heap.size w w' := by
  go_enter Try.func13, Try.ntmps13
  go_wp2
  go_ret
  exact ⟨rfl, below_al (below_al (Below.refl _ _) _) _⟩

set_option maxHeartbeats 2000000 in
theorem law_Col_big0 (w : World) (a_0 : Option Addr) (n_0 : Nat) (c_0 : Nat) (xss_0 : List (List Int)) (a'_0 : Option Addr) (n'_0 : Nat) (c'_0 : Nat) (yss_0 : List (List Int)) (s_1 : Int) (a_1 : Option Addr) (n_1 : Nat) (c_1 : Nat) (xs_1 : List Int) (a_2 : Option Addr) (n_2 : Nat) (c_2 : Nat) (xs_2 : List Int) (h0_0 : Sol w a_0 n_0 xss_0 a'_0 n'_0 yss_0) (h0_1 : n_0 ≤ 9223372036854775807 ∧ n'_0 ≤ 9223372036854775807) (h1_0 : I64 s_1) (h1_1 : Row w a_1 n_1 xs_1) (h1_2 : n_1 ≤ 9223372036854775807) (h1_3 : I64s xs_1) (h2_0 : Row w a_2 n_2 xs_2) (h2_1 : n_2 ≤ 9223372036854775807) (h2_2 : I64s xs_2) (hs0 : n_2 ≤ 1048576) (hbig : 1048576 < (n_0 + tot xss_0 + n'_0 + tot yss_0)) : Calls Try.prog 13 #[sAgg a_0 n_0 c_0 a'_0 n'_0 c'_0, bAgg s_1 a_1 n_1 c_1, .slice a_2 n_2 c_2] w fun e w' => e = .returned (.bool true) ∧ Below w.heap.size w w' := by
  go_enter Try.func13, Try.ntmps13
  have hB : Below w.heap.size w w := Below.refl _ _
  go_wp2_with fail
  refine (szSol_no' (((h0_0.below hB).alloc _).alloc _) (by omega) (by omega) (by omega) (by omega)).mono ?_
  rintro e w1 ⟨rfl, hbw1⟩
  have zw1 : w.heap.size + 2 ≤ w1.heap.size := by have := hbw1.size; simpa using this
  have hLP0 : Loc _ (w.heap.size) _ _ := ((Loc.new _ (by simp) _ _).alloc _).below hbw1 (by first | omega | (simp; done) | (simp; omega))
  have lP0 := hLP0.cells2
  have yP0 := hLP0.lt
  have hLP1 : Loc _ (w.heap.size + 1) _ _ := (Loc.new _ (by simp) _ _).below hbw1 (by first | omega | (simp; done) | (simp; omega))
  have lP1 := hLP1.cells2
  have yP1 := hLP1.lt
  replace hB := below_th (below_al (below_al hB _) _) hbw1
  go_wp2
  go_ret
  exact ⟨rfl, hB⟩

set_option maxHeartbeats 2000000 in
theorem law_Col_big1 (w : World) (a_0 : Option Addr) (n_0 : Nat) (c_0 : Nat) (xss_0 : List (List Int)) (a'_0 : Option Addr) (n'_0 : Nat) (c'_0 : Nat) (yss_0 : List (List Int)) (s_1 : Int) (a_1 : Option Addr) (n_1 : Nat) (c_1 : Nat) (xs_1 : List Int) (a_2 : Option Addr) (n_2 : Nat) (c_2 : Nat) (xs_2 : List Int) (h0_0 : Sol w a_0 n_0 xss_0 a'_0 n'_0 yss_0) (h0_1 : n_0 ≤ 9223372036854775807 ∧ n'_0 ≤ 9223372036854775807) (h1_0 : I64 s_1) (h1_1 : Row w a_1 n_1 xs_1) (h1_2 : n_1 ≤ 9223372036854775807) (h1_3 : I64s xs_1) (h2_0 : Row w a_2 n_2 xs_2) (h2_1 : n_2 ≤ 9223372036854775807) (h2_2 : I64s xs_2) (hs0 : n_2 ≤ 1048576) (hpre : (n_0 + tot xss_0 + n'_0 + tot yss_0) ≤ 1048576) (hbig : 1048576 < (n_0 + tot xss_0 + n'_0 + tot yss_0) + (n_1)) : Calls Try.prog 13 #[sAgg a_0 n_0 c_0 a'_0 n'_0 c'_0, bAgg s_1 a_1 n_1 c_1, .slice a_2 n_2 c_2] w fun e w' => e = .returned (.bool true) ∧ Below w.heap.size w w' := by
  go_enter Try.func13, Try.ntmps13
  have hB : Below w.heap.size w w := Below.refl _ _
  go_wp2_with fail
  refine (szSol_ok' (((h0_0.below hB).alloc _).alloc _) (by omega) (by omega)).mono ?_
  rintro e w1 ⟨rfl, hbw1⟩
  have zw1 : w.heap.size + 2 ≤ w1.heap.size := by have := hbw1.size; simpa using this
  have hLP0 : Loc _ (w.heap.size) _ _ := ((Loc.new _ (by simp) _ _).alloc _).below hbw1 (by first | omega | (simp; done) | (simp; omega))
  have lP0 := hLP0.cells2
  have yP0 := hLP0.lt
  have hLP1 : Loc _ (w.heap.size + 1) _ _ := (Loc.new _ (by simp) _ _).below hbw1 (by first | omega | (simp; done) | (simp; omega))
  have lP1 := hLP1.cells2
  have yP1 := hLP1.lt
  replace hB := below_th (below_al (below_al hB _) _) hbw1
  go_wp2_with fail
  refine (szBraid_no' (h1_1.below hB) (by omega) (by omega) (by omega) (by omega)).mono ?_
  rintro e w2 ⟨rfl, hbw2⟩
  have zw2 : w1.heap.size ≤ w2.heap.size := hbw2.size
  replace hLP0 := hLP0.below hbw2 hLP0.lt
  replace lP0 := hLP0.cells2
  replace yP0 := hLP0.lt
  replace hLP1 := hLP1.below hbw2 hLP1.lt
  replace lP1 := hLP1.cells2
  replace yP1 := hLP1.lt
  replace hB := below_th hB hbw2
  go_wp2
  go_ret
  exact ⟨rfl, hB⟩

set_option maxHeartbeats 8000000 in
theorem law_Col_small (w : World) (a_0 : Option Addr) (n_0 : Nat) (c_0 : Nat) (xss_0 : List (List Int)) (a'_0 : Option Addr) (n'_0 : Nat) (c'_0 : Nat) (yss_0 : List (List Int)) (s_1 : Int) (a_1 : Option Addr) (n_1 : Nat) (c_1 : Nat) (xs_1 : List Int) (a_2 : Option Addr) (n_2 : Nat) (c_2 : Nat) (xs_2 : List Int) (h0_0 : Sol w a_0 n_0 xss_0 a'_0 n'_0 yss_0) (h0_1 : n_0 ≤ 9223372036854775807 ∧ n'_0 ≤ 9223372036854775807) (h1_0 : I64 s_1) (h1_1 : Row w a_1 n_1 xs_1) (h1_2 : n_1 ≤ 9223372036854775807) (h1_3 : I64s xs_1) (h2_0 : Row w a_2 n_2 xs_2) (h2_1 : n_2 ≤ 9223372036854775807) (h2_2 : I64s xs_2) (hs0 : n_2 ≤ 1048576) (hs1 : (n_0 + tot xss_0 + n'_0 + tot yss_0) + (n_1) ≤ 1048576) : Calls Try.prog 13 #[sAgg a_0 n_0 c_0 a'_0 n'_0 c'_0, bAgg s_1 a_1 n_1 c_1, .slice a_2 n_2 c_2] w fun e w' => e = .returned (.bool true) ∧ Below w.heap.size w w' := by
  obtain ⟨rd, code, HS, HI⟩ : ∃ (rd : Bool) (code : Int), Hid (∀ (w' : World) (a_0q : Option Addr) (c_0q : Nat) (a'_0q : Option Addr) (c'_0q : Nat) (a_1q : Option Addr) (c_1q : Nat) (a_2q : Option Addr) (c_2q : Nat), Sol w' a_0q n_0 xss_0 a'_0q n'_0 yss_0 → Row w' a_1q n_1 xs_1 → Row w' a_2q n_2 xs_2 → Calls Try.prog 62 #[sAgg a_0q n_0 c_0q a'_0q n'_0 c'_0q, bAgg s_1 a_1q n_1 c_1q, .slice a_2q n_2 c_2q] w' (RetO w' rd code)) ∧ Hid (∀ (w' : World) (a_0q : Option Addr) (c_0q : Nat) (a'_0q : Option Addr) (c'_0q : Nat) (a_1q : Option Addr) (c_1q : Nat) (a_2q : Option Addr) (c_2q : Nat), Sol w' a_0q n_0 xss_0 a'_0q n'_0 yss_0 → Row w' a_1q n_1 xs_1 → Row w' a_2q n_2 xs_2 → Calls Try.prog 63 #[sAgg a_0q n_0 c_0q a'_0q n'_0 c'_0q, bAgg s_1 a_1q n_1 c_1q, .slice a_2q n_2 c_2q] w' (RetO w' rd code)) :=
    ⟨_, _, Lib.hid fun w' a_0q c_0q a'_0q c'_0q a_1q c_1q a_2q c_2q r0 r1 r2 => spec_Col_l a_0q n_0 c_0q xss_0 a'_0q n'_0 c'_0q yss_0 s_1 a_1q n_1 c_1q xs_1 a_2q n_2 c_2q xs_2 w' r0 h0_1 h1_0 r1 h1_2 h1_3 r2 h2_1 h2_2, Lib.hid fun w' a_0q c_0q a'_0q c'_0q a_1q c_1q a_2q c_2q r0 r1 r2 => impl_Col_l a_0q n_0 c_0q xss_0 a'_0q n'_0 c'_0q yss_0 s_1 a_1q n_1 c_1q xs_1 a_2q n_2 c_2q xs_2 w' r0 h0_1 h1_0 r1 h1_2 h1_3 r2 h2_1 h2_2⟩
  have hne : (code != code) = false := by simp
  have hne0 : (rd != rd) = false := by simp
  go_enter Try.func13, Try.ntmps13
  have hB : Below w.heap.size w w := Below.refl _ _
  go_wp2_with fail
  refine (szSol_ok' (((h0_0.below hB).alloc _).alloc _) (by omega) (by omega)).mono ?_
  rintro e w1 ⟨rfl, hbw1⟩
  have zw1 : w.heap.size + 2 ≤ w1.heap.size := by have := hbw1.size; simpa using this
  have hLP0 : Loc _ (w.heap.size) _ _ := ((Loc.new _ (by simp) _ _).alloc _).below hbw1 (by first | omega | (simp; done) | (simp; omega))
  have lP0 := hLP0.cells2
  have yP0 := hLP0.lt
  have hLP1 : Loc _ (w.heap.size + 1) _ _ := (Loc.new _ (by simp) _ _).below hbw1 (by first | omega | (simp; done) | (simp; omega))
  have lP1 := hLP1.cells2
  have yP1 := hLP1.lt
  replace hB := below_th (below_al (below_al hB _) _) hbw1
  go_wp2_with fail
  refine (szBraid_ok' (h1_1.below hB) (by omega) (by omega)).mono ?_
  rintro e w2 ⟨rfl, hbw2⟩
  have zw2 : w1.heap.size ≤ w2.heap.size := hbw2.size
  replace hLP0 := hLP0.below hbw2 hLP0.lt
  replace lP0 := hLP0.cells2
  replace yP0 := hLP0.lt
  replace hLP1 := hLP1.below hbw2 hLP1.lt
  replace lP1 := hLP1.cells2
  replace yP1 := hLP1.lt
  replace hB := below_th hB hbw2
  go_wp2_with fail
  have tok1 : True := trivial
  go_region_held3 (fun w' => (w'.cell? ⟨w.heap.size, 0, none⟩ = some (.slice a_0 n_0 c_0) ∧ w'.cell? ⟨w.heap.size, 1, none⟩ = some (.slice a'_0 n'_0 c'_0)) ∧ (w'.cell? ⟨w.heap.size + 1, 0, none⟩ = some (.int .i64 s_1) ∧ w'.cell? ⟨w.heap.size + 1, 1, none⟩ = some (.slice a_1 n_1 c_1)))
    (first | exact ⟨⟨lP0_w6.1, lP0_w6.2.1⟩, ⟨lP1_w6.1, lP1_w6.2.1⟩⟩ | exact ⟨⟨lP0_w5.1, lP0_w5.2.1⟩, ⟨lP1_w5.1, lP1_w5.2.1⟩⟩ | exact ⟨⟨lP0_w4.1, lP0_w4.2.1⟩, ⟨lP1_w4.1, lP1_w4.2.1⟩⟩ | exact ⟨⟨lP0_w3.1, lP0_w3.2.1⟩, ⟨lP1_w3.1, lP1_w3.2.1⟩⟩ | exact ⟨⟨lP0.1, lP0.2.1⟩, ⟨lP1.1, lP1.2.1⟩⟩)
    (first
      | (go_at_call 38; have _t := tok1; clear _t tok1; have tok2 : True := trivial; refine (toSol_u ((h0_0.below hB).drewN 1) (by omega)).mono ?_; rintro e w3 ⟨a_0p, c_0p, a'_0p, c'_0p, vs_p, vs'_p, rfl, hop0_w3, hbw3⟩; have zw3 : w2.heap.size ≤ w3.heap.size := hbw3.size; have hrw3 : Below w2.heap.size w2 w3 := (Below.drew (Below.refl _ _)).trans hbw3; have hLP0_w3 := hLP0.below hrw3 hLP0.lt; have lP0_w3 := hLP0_w3.cells2; have hLP1_w3 := hLP1.below hrw3 hLP1.lt; have lP1_w3 := hLP1_w3.cells2; have lop0 : ∀ g, SolS a_0p n_0 vs_p a'_0p n'_0 vs'_p g → w2.heap.size ≤ g := hop0_w3.uLo; have hip0 : ∀ g, SolS a_0p n_0 vs_p a'_0p n'_0 vs'_p g → g < w3.heap.size := hop0_w3.uHi)
      | (go_at_call 29; have _t := tok2; clear _t tok2; have tok3 : True := trivial; refine (toBraid_u (h1_1.below (below_th hB hrw3)) (by omega)).mono ?_; rintro e w4 ⟨a_1p, c_1p, rfl, hop1_w4, hbw4⟩; have zw4 : w3.heap.size ≤ w4.heap.size := hbw4.size; have hrw4 : Below w2.heap.size w2 w4 := below_th hrw3 hbw4; have hLP0_w4 := hLP0.below hrw4 hLP0.lt; have lP0_w4 := hLP0_w4.cells2; have hLP1_w4 := hLP1.below hrw4 hLP1.lt; have lP1_w4 := hLP1_w4.cells2; have hop0_w4 := hop0_w3.below hbw4; have lop1 : ∀ g, RowS a_1p g → w3.heap.size ≤ g := hop1_w4.uLo; have hip1 : ∀ g, RowS a_1p g → g < w4.heap.size := hop1_w4.uHi)
      | (go_at_call 39; have _t := tok3; clear _t tok3; have tok4 : True := trivial; refine (toRow_u (h2_0.below (below_th hB hrw4)) (by omega)).mono ?_; rintro e w5 ⟨a_2p, c_2p, rfl, hop2_w5, hbw5⟩; have zw5 : w4.heap.size ≤ w5.heap.size := hbw5.size; have hrw5 : Below w2.heap.size w2 w5 := below_th hrw4 hbw5; have hLP0_w5 := hLP0.below hrw5 hLP0.lt; have lP0_w5 := hLP0_w5.cells2; have hLP1_w5 := hLP1.below hrw5 hLP1.lt; have lP1_w5 := hLP1_w5.cells2; have hop0_w5 := hop0_w4.below hbw5; have hop1_w5 := hop1_w4.below hbw5; have lop2 : ∀ g, RowS a_2p g → w4.heap.size ≤ g := hop2_w5.uLo; have hip2 : ∀ g, RowS a_2p g → g < w5.heap.size := hop2_w5.uHi)
      | (go_at_call 62; have _t := tok4; clear _t tok4; have tok5 : True := trivial; refine (HS.out _ _ _ _ _ _ _ _ _ hop0_w5.sol hop1_w5.row hop2_w5.row).mono ?_; rintro e w6 ⟨rfl, hbw6⟩; have zw6 : w5.heap.size ≤ w6.heap.size := hbw6.size; have hrw6 : Below w2.heap.size w2 w6 := below_th hrw5 hbw6; have hLP0_w6 := hLP0.below hrw6 hLP0.lt; have lP0_w6 := hLP0_w6.cells2; have hLP1_w6 := hLP1.below hrw6 hLP1.lt; have lP1_w6 := hLP1_w6.cells2; have hop0_w6 := hop0_w5.below hbw6; have hop1_w6 := hop1_w5.below hbw6; have hop2_w6 := hop2_w5.below hbw6))
  replace hLP0 := hLP0_w6
  replace lP0 := lP0_w6
  clear hLP0_w5 lP0_w5 hLP0_w4 lP0_w4 hLP0_w3 lP0_w3
  replace yP0 := hLP0.lt
  replace hLP1 := hLP1_w6
  replace lP1 := lP1_w6
  clear hLP1_w5 lP1_w5 hLP1_w4 lP1_w4 hLP1_w3 lP1_w3
  replace yP1 := hLP1.lt
  have hop0 := hop0_w6
  have hop1 := hop1_w6
  have hop2 := hop2_w6
  replace hB := below_th hB hrw6
  clear tok5
  go_wp2_with fail
  refine (toSol_u (h0_0.below hB) (by omega)).mono ?_
  rintro e w7 ⟨a_0x, c_0x, a'_0x, c'_0x, vs_x, vs'_x, rfl, hox0, hbw7⟩
  have zw7 : w6.heap.size ≤ w7.heap.size := hbw7.size
  replace hLP0 := hLP0.below hbw7 hLP0.lt
  replace lP0 := hLP0.cells2
  replace yP0 := hLP0.lt
  replace hLP1 := hLP1.below hbw7 hLP1.lt
  replace lP1 := hLP1.cells2
  replace yP1 := hLP1.lt
  replace hB := below_th hB hbw7
  have lox0 : ∀ g, SolS a_0x n_0 vs_x a'_0x n'_0 vs'_x g → w6.heap.size ≤ g := hox0.uLo
  have hix0 : ∀ g, SolS a_0x n_0 vs_x a'_0x n'_0 vs'_x g → g < w7.heap.size := hox0.uHi
  go_wp2_with fail
  refine (toBraid_u ((h1_1.below hB).alloc _) (by omega)).mono ?_
  rintro e w8 ⟨a_1x, c_1x, rfl, hox1, hbw8⟩
  have zw8 : w7.heap.size + 1 ≤ w8.heap.size := by have := hbw8.size; simpa using this
  replace hLP0 := (hLP0.alloc _).below hbw8 (hLP0.alloc _).lt
  replace lP0 := hLP0.cells2
  replace yP0 := hLP0.lt
  replace hLP1 := (hLP1.alloc _).below hbw8 (hLP1.alloc _).lt
  replace lP1 := hLP1.cells2
  replace yP1 := hLP1.lt
  have hLX0 : Loc _ (w7.heap.size) _ _ := (Loc.new _ (by simp) _ _).below hbw8 (by first | omega | (simp; done) | (simp; omega))
  have lX0 := hLX0.cells2
  have yX0 := hLX0.lt
  replace hox0 := (hox0.alloc _).below hbw8
  replace hB := below_th (below_al hB _) hbw8
  have lox1 : ∀ g, RowS a_1x g → w7.heap.size + 1 ≤ g := fun g hg => by have := hox1.uLo g hg; simpa using this
  have hix1 : ∀ g, RowS a_1x g → g < w8.heap.size := hox1.uHi
  go_wp2_with fail
  refine (toRow_u ((h2_0.below hB).alloc _) (by omega)).mono ?_
  rintro e w9 ⟨a_2x, c_2x, rfl, hox2, hbw9⟩
  have zw9 : w8.heap.size + 1 ≤ w9.heap.size := by have := hbw9.size; simpa using this
  replace hLP0 := (hLP0.alloc _).below hbw9 (hLP0.alloc _).lt
  replace lP0 := hLP0.cells2
  replace yP0 := hLP0.lt
  replace hLP1 := (hLP1.alloc _).below hbw9 (hLP1.alloc _).lt
  replace lP1 := hLP1.cells2
  replace yP1 := hLP1.lt
  replace hLX0 := (hLX0.alloc _).below hbw9 (hLX0.alloc _).lt
  replace lX0 := hLX0.cells2
  replace yX0 := hLX0.lt
  have hLX1 : Loc _ (w8.heap.size) _ _ := (Loc.new _ (by simp) _ _).below hbw9 (by first | omega | (simp; done) | (simp; omega))
  have lX1 := hLX1.cells2
  have yX1 := hLX1.lt
  replace hox0 := (hox0.alloc _).below hbw9
  replace hox1 := (hox1.alloc _).below hbw9
  replace hB := below_th (below_al hB _) hbw9
  have lox2 : ∀ g, RowS a_2x g → w8.heap.size + 1 ≤ g := fun g hg => by have := hox2.uLo g hg; simpa using this
  have hix2 : ∀ g, RowS a_2x g → g < w9.heap.size := hox2.uHi
  go_wp2_with fail
  refine (HI.out _ _ _ _ _ _ _ _ _ (hox0.sol) (hox1.row) (hox2.row)).mono ?_
  rintro e w10 ⟨rfl, hbw10⟩
  have zw10 : w9.heap.size ≤ w10.heap.size := hbw10.size
  replace hLP0 := hLP0.below hbw10 hLP0.lt
  replace lP0 := hLP0.cells2
  replace yP0 := hLP0.lt
  replace hLP1 := hLP1.below hbw10 hLP1.lt
  replace lP1 := hLP1.cells2
  replace yP1 := hLP1.lt
  replace hLX0 := hLX0.below hbw10 hLX0.lt
  replace lX0 := hLX0.cells2
  replace yX0 := hLX0.lt
  replace hLX1 := hLX1.below hbw10 hLX1.lt
  replace lX1 := hLX1.cells2
  replace yX1 := hLX1.lt
  replace hox0 := hox0.below hbw10
  replace hox1 := hox1.below hbw10
  replace hox2 := hox2.below hbw10
  replace hB := below_th hB hbw10
  go_wp2_with fail
  have tok1 : True := trivial
  go_region_held3 (fun w' => (w'.cell? ⟨w.heap.size, 0, none⟩ = some (.slice a_0 n_0 c_0) ∧ w'.cell? ⟨w.heap.size, 1, none⟩ = some (.slice a'_0 n'_0 c'_0)) ∧ (w'.cell? ⟨w7.heap.size, 0, none⟩ = some (.slice a_0x n_0 c_0x) ∧ w'.cell? ⟨w7.heap.size, 1, none⟩ = some (.slice a'_0x n'_0 c'_0x)))
    (first | exact ⟨⟨lP0_w12.1, lP0_w12.2.1⟩, ⟨lX0_w12.1, lX0_w12.2.1⟩⟩ | exact ⟨⟨lP0_w11.1, lP0_w11.2.1⟩, ⟨lX0_w11.1, lX0_w11.2.1⟩⟩ | exact ⟨⟨lP0.1, lP0.2.1⟩, ⟨lX0.1, lX0.2.1⟩⟩)
    (first
      | (go_at_call 38; have _t := tok1; clear _t tok1; have tok2 : True := trivial; refine (toSol_u ((h0_0.below hB).drewN 1) (by omega)).mono ?_; rintro e w11 ⟨a_0y, c_0y, a'_0y, c'_0y, vs_y, vs'_y, rfl, hoy0_w11, hbw11⟩; have zw11 : w10.heap.size ≤ w11.heap.size := hbw11.size; have hrw11 : Below w10.heap.size w10 w11 := (Below.drew (Below.refl _ _)).trans hbw11; have hLP0_w11 := hLP0.below hrw11 hLP0.lt; have lP0_w11 := hLP0_w11.cells2; have hLX0_w11 := hLX0.below hrw11 hLX0.lt; have lX0_w11 := hLX0_w11.cells2; have loy0 : ∀ g, SolS a_0y n_0 vs_y a'_0y n'_0 vs'_y g → w10.heap.size ≤ g := hoy0_w11.uLo; have hiy0 : ∀ g, SolS a_0y n_0 vs_y a'_0y n'_0 vs'_y g → g < w11.heap.size := hoy0_w11.uHi)
      | (go_at_call 42; have _t := tok2; clear _t tok2; have tok3 : True := trivial; refine (eqSol_u (hox0.below hrw11).sol hoy0_w11.sol (by omega)).mono ?_; rintro e w12 ⟨rfl, hbw12⟩; have zw12 : w11.heap.size ≤ w12.heap.size := hbw12.size; have hrw12 : Below w10.heap.size w10 w12 := below_th hrw11 hbw12; have hLP0_w12 := hLP0.below hrw12 hLP0.lt; have lP0_w12 := hLP0_w12.cells2; have hLX0_w12 := hLX0.below hrw12 hLX0.lt; have lX0_w12 := hLX0_w12.cells2; have hoy0_w12 := hoy0_w11.below hbw12))
  replace hLP0 := hLP0_w12
  replace lP0 := lP0_w12
  clear hLP0_w11 lP0_w11
  replace yP0 := hLP0.lt
  replace hLP1 := hLP1.below hrw12 hLP1.lt
  replace lP1 := hLP1.cells2
  replace yP1 := hLP1.lt
  replace hLX0 := hLX0_w12
  replace lX0 := lX0_w12
  clear hLX0_w11 lX0_w11
  replace yX0 := hLX0.lt
  replace hLX1 := hLX1.below hrw12 hLX1.lt
  replace lX1 := hLX1.cells2
  replace yX1 := hLX1.lt
  replace hox0 := hox0.below hrw12
  replace hox1 := hox1.below hrw12
  replace hox2 := hox2.below hrw12
  have hoy0 := hoy0_w12
  replace hB := below_th hB hrw12
  clear tok3
  go_wp2_with fail
  have tok1 : True := trivial
  go_region_held3 (fun w' => (w'.cell? ⟨w.heap.size + 1, 0, none⟩ = some (.int .i64 s_1) ∧ w'.cell? ⟨w.heap.size + 1, 1, none⟩ = some (.slice a_1 n_1 c_1)) ∧ (w'.cell? ⟨w8.heap.size, 0, none⟩ = some (.int .i64 s_1) ∧ w'.cell? ⟨w8.heap.size, 1, none⟩ = some (.slice a_1x n_1 c_1x)))
    (first | exact ⟨⟨lP1_w14.1, lP1_w14.2.1⟩, ⟨lX1_w14.1, lX1_w14.2.1⟩⟩ | exact ⟨⟨lP1_w13.1, lP1_w13.2.1⟩, ⟨lX1_w13.1, lX1_w13.2.1⟩⟩ | exact ⟨⟨lP1.1, lP1.2.1⟩, ⟨lX1.1, lX1.2.1⟩⟩)
    (first
      | (go_at_call 29; have _t := tok1; clear _t tok1; have tok2 : True := trivial; refine (toBraid_u ((h1_1.below hB).drewN 1) (by omega)).mono ?_; rintro e w13 ⟨a_1y, c_1y, rfl, hoy1_w13, hbw13⟩; have zw13 : w12.heap.size ≤ w13.heap.size := hbw13.size; have hrw13 : Below w12.heap.size w12 w13 := (Below.drew (Below.refl _ _)).trans hbw13; have hLP1_w13 := hLP1.below hrw13 hLP1.lt; have lP1_w13 := hLP1_w13.cells2; have hLX1_w13 := hLX1.below hrw13 hLX1.lt; have lX1_w13 := hLX1_w13.cells2; have loy1 : ∀ g, RowS a_1y g → w12.heap.size ≤ g := hoy1_w13.uLo; have hiy1 : ∀ g, RowS a_1y g → g < w13.heap.size := hoy1_w13.uHi)
      | (go_at_call 17; have _t := tok2; clear _t tok2; have tok3 : True := trivial; refine (eqBraid_u (hox1.below hrw13).row hoy1_w13.row (by omega)).mono ?_; rintro e w14 ⟨rfl, hbw14⟩; have zw14 : w13.heap.size ≤ w14.heap.size := hbw14.size; have hrw14 : Below w12.heap.size w12 w14 := below_th hrw13 hbw14; have hLP1_w14 := hLP1.below hrw14 hLP1.lt; have lP1_w14 := hLP1_w14.cells2; have hLX1_w14 := hLX1.below hrw14 hLX1.lt; have lX1_w14 := hLX1_w14.cells2; have hoy1_w14 := hoy1_w13.below hbw14))
  replace hLP0 := hLP0.below hrw14 hLP0.lt
  replace lP0 := hLP0.cells2
  replace yP0 := hLP0.lt
  replace hLP1 := hLP1_w14
  replace lP1 := lP1_w14
  clear hLP1_w13 lP1_w13
  replace yP1 := hLP1.lt
  replace hLX0 := hLX0.below hrw14 hLX0.lt
  replace lX0 := hLX0.cells2
  replace yX0 := hLX0.lt
  replace hLX1 := hLX1_w14
  replace lX1 := lX1_w14
  clear hLX1_w13 lX1_w13
  replace yX1 := hLX1.lt
  replace hox0 := hox0.below hrw14
  replace hox1 := hox1.below hrw14
  replace hox2 := hox2.below hrw14
  have hoy1 := hoy1_w14
  replace hB := below_th hB hrw14
  clear tok3
  go_wp2_with fail
  refine (toRow_u (h2_0.below hB) (by omega)).mono ?_
  rintro e w15 ⟨a_2y, c_2y, rfl, hoy2, hbw15⟩
  have zw15 : w14.heap.size ≤ w15.heap.size := hbw15.size
  replace hLP0 := hLP0.below hbw15 hLP0.lt
  replace lP0 := hLP0.cells2
  replace yP0 := hLP0.lt
  replace hLP1 := hLP1.below hbw15 hLP1.lt
  replace lP1 := hLP1.cells2
  replace yP1 := hLP1.lt
  replace hLX0 := hLX0.below hbw15 hLX0.lt
  replace lX0 := hLX0.cells2
  replace yX0 := hLX0.lt
  replace hLX1 := hLX1.below hbw15 hLX1.lt
  replace lX1 := hLX1.cells2
  replace yX1 := hLX1.lt
  replace hox0 := hox0.below hbw15
  replace hox1 := hox1.below hbw15
  replace hox2 := hox2.below hbw15
  replace hB := below_th hB hbw15
  have loy2 : ∀ g, RowS a_2y g → w14.heap.size ≤ g := hoy2.uLo
  have hiy2 : ∀ g, RowS a_2y g → g < w15.heap.size := hoy2.uHi
  go_wp2_with fail
  refine (eqRow_u (hox2.row) (hoy2.row) (by omega)).mono ?_
  rintro e w16 ⟨rfl, hbw16⟩
  have zw16 : w15.heap.size ≤ w16.heap.size := hbw16.size
  replace hLP0 := hLP0.below hbw16 hLP0.lt
  replace lP0 := hLP0.cells2
  replace yP0 := hLP0.lt
  replace hLP1 := hLP1.below hbw16 hLP1.lt
  replace lP1 := hLP1.cells2
  replace yP1 := hLP1.lt
  replace hLX0 := hLX0.below hbw16 hLX0.lt
  replace lX0 := hLX0.cells2
  replace yX0 := hLX0.lt
  replace hLX1 := hLX1.below hbw16 hLX1.lt
  replace lX1 := hLX1.cells2
  replace yX1 := hLX1.lt
  replace hox0 := hox0.below hbw16
  replace hox1 := hox1.below hbw16
  replace hox2 := hox2.below hbw16
  replace hoy2 := hoy2.below hbw16
  replace hB := below_th hB hbw16
  go_wp2_with fail
  go_ret
  exact ⟨rfl, hB⟩

theorem law_Col (w : World) (a_0 : Option Addr) (n_0 : Nat) (c_0 : Nat) (xss_0 : List (List Int)) (a'_0 : Option Addr) (n'_0 : Nat) (c'_0 : Nat) (yss_0 : List (List Int)) (h0_0 : Sol w a_0 n_0 xss_0 a'_0 n'_0 yss_0) (h0_1 : n_0 ≤ 9223372036854775807 ∧ n'_0 ≤ 9223372036854775807) (s_1 : Int) (a_1 : Option Addr) (n_1 : Nat) (c_1 : Nat) (xs_1 : List Int) (h1_0 : I64 s_1) (h1_1 : Row w a_1 n_1 xs_1) (h1_2 : n_1 ≤ 9223372036854775807) (h1_3 : I64s xs_1) (a_2 : Option Addr) (n_2 : Nat) (c_2 : Nat) (xs_2 : List Int) (h2_0 : Row w a_2 n_2 xs_2) (h2_1 : n_2 ≤ 9223372036854775807) (h2_2 : I64s xs_2) : Calls Try.prog 13 #[sAgg a_0 n_0 c_0 a'_0 n'_0 c'_0, bAgg s_1 a_1 n_1 c_1, .slice a_2 n_2 c_2] w fun e w' => e = .returned (.bool true) ∧ Below w.heap.size w w' := by
  refine (Classical.em (n_2 ≤ 1048576)).elim (fun c0 => ?_) (fun c0 => law_Col_bigr0 w a_0 n_0 c_0 xss_0 a'_0 n'_0 c'_0 yss_0 s_1 a_1 n_1 c_1 xs_1 a_2 n_2 c_2 xs_2 h0_0 h0_1 h1_0 h1_1 h1_2 h1_3 h2_0 h2_1 h2_2  (by omega))
  refine (Classical.em ((n_0 + tot xss_0 + n'_0 + tot yss_0) ≤ 1048576)).elim (fun c1 => ?_) (fun c1 => law_Col_big0 w a_0 n_0 c_0 xss_0 a'_0 n'_0 c'_0 yss_0 s_1 a_1 n_1 c_1 xs_1 a_2 n_2 c_2 xs_2 h0_0 h0_1 h1_0 h1_1 h1_2 h1_3 h2_0 h2_1 h2_2 c0 (by omega))
  refine (Classical.em ((n_0 + tot xss_0 + n'_0 + tot yss_0) + (n_1) ≤ 1048576)).elim (fun c2 => ?_) (fun c2 => law_Col_big1 w a_0 n_0 c_0 xss_0 a'_0 n'_0 c'_0 yss_0 s_1 a_1 n_1 c_1 xs_1 a_2 n_2 c_2 xs_2 h0_0 h0_1 h1_0 h1_1 h1_2 h1_3 h2_0 h2_1 h2_2 c0 c1 (by omega))
  exact law_Col_small w a_0 n_0 c_0 xss_0 a'_0 n'_0 c'_0 yss_0 s_1 a_1 n_1 c_1 xs_1 a_2 n_2 c_2 xs_2 h0_0 h0_1 h1_0 h1_1 h1_2 h1_3 h2_0 h2_1 h2_2 c0 c2

end Go.Proofs.Ythkpdodhkgdiaaa
