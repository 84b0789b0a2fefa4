/-
  The walk of the law of PlaceOfSolution: it answers true.
  No condition.
-/
import Derived.Test.YthgafpeblpnolaaGreatPos
import Derived.Test.YthgafpeblpnolaaGreatBase
import Derived.Deep.RegionHeld3
namespace Go.Proofs.YthgafpeblpnolaaGreat
set_option maxRecDepth 100000
set_option linter.unusedVariables false
set_option linter.unusedSimpArgs false
open Go.RowKit

set_option maxHeartbeats 2000000 in
theorem law_Pos_big0 (w : World) (a_0 : Option Addr) (n_0 : Nat) (c_0 : Nat) (xss_0 : List (List Int)) (a'_0 : Option Addr) (n'_0 : Nat) (c'_0 : Nat) (yss_0 : List (List Int)) (h0_0 : Sol w a_0 n_0 xss_0 a'_0 n'_0 yss_0) (h0_1 : n_0 ≤ 9223372036854775807 ∧ n'_0 ≤ 9223372036854775807)  (hbig : 1048576 < (n_0 + tot xss_0 + n'_0 + tot yss_0)) : Calls Tryz.prog 3 #[sAgg a_0 n_0 c_0 a'_0 n'_0 c'_0] w fun e w' => e = .returned (.bool true) ∧ Below w.heap.size w w' := by
  go_enter Tryz.func3, Tryz.ntmps3
  have hB : Below w.heap.size w w := Below.refl _ _
  go_wp2_with fail
  refine (szSol_no' ((h0_0.below hB).alloc _) (by omega) (by omega) (by omega) (by omega)).mono ?_
  rintro e w1 ⟨rfl, hbw1⟩
  have zw1 : w.heap.size + 1 ≤ w1.heap.size := by have := hbw1.size; simpa using this
  have hLP0 : Loc _ (w.heap.size) _ _ := (Loc.new _ (by simp) _ _).below hbw1 (by first | omega | (simp; done) | (simp; omega))
  have lP0 := hLP0.cells2
  have yP0 := hLP0.lt
  replace hB := below_th (below_al hB _) hbw1
  go_wp2
  go_ret
  exact ⟨rfl, hB⟩

set_option maxHeartbeats 8000000 in
theorem law_Pos_small (w : World) (a_0 : Option Addr) (n_0 : Nat) (c_0 : Nat) (xss_0 : List (List Int)) (a'_0 : Option Addr) (n'_0 : Nat) (c'_0 : Nat) (yss_0 : List (List Int)) (h0_0 : Sol w a_0 n_0 xss_0 a'_0 n'_0 yss_0) (h0_1 : n_0 ≤ 9223372036854775807 ∧ n'_0 ≤ 9223372036854775807) (hs0 : (n_0 + tot xss_0 + n'_0 + tot yss_0) ≤ 1048576) : Calls Tryz.prog 3 #[sAgg a_0 n_0 c_0 a'_0 n'_0 c'_0] w fun e w' => e = .returned (.bool true) ∧ Below w.heap.size w w' := by
  obtain ⟨rd, code, HS, HI⟩ : ∃ (rd : Int) (code : Int), Hid (∀ (w' : World) (a_0q : Option Addr) (c_0q : Nat) (a'_0q : Option Addr) (c'_0q : Nat), Sol w' a_0q n_0 xss_0 a'_0q n'_0 yss_0 → Calls Tryz.prog 7 #[sAgg a_0q n_0 c_0q a'_0q n'_0 c'_0q] w' (RetI w' rd code)) ∧ Hid (∀ (w' : World) (a_0q : Option Addr) (c_0q : Nat) (a'_0q : Option Addr) (c'_0q : Nat), Sol w' a_0q n_0 xss_0 a'_0q n'_0 yss_0 → Calls Tryz.prog 9 #[sAgg a_0q n_0 c_0q a'_0q n'_0 c'_0q] w' (RetI w' rd code)) :=
    ⟨_, _, Lib.hid fun w' a_0q c_0q a'_0q c'_0q r0 => spec_Pos_l a_0q n_0 c_0q xss_0 a'_0q n'_0 c'_0q yss_0 w' r0 h0_1, Lib.hid fun w' a_0q c_0q a'_0q c'_0q r0 => impl_Pos_l a_0q n_0 c_0q xss_0 a'_0q n'_0 c'_0q yss_0 w' r0 h0_1⟩
  have hne : (code != code) = false := by simp
  have hne0 : (rd != rd) = false := by simp
  go_enter Tryz.func3, Tryz.ntmps3
  have hB : Below w.heap.size w w := Below.refl _ _
  go_wp2_with fail
  refine (szSol_ok' ((h0_0.below hB).alloc _) (by omega) (by omega)).mono ?_
  rintro e w1 ⟨rfl, hbw1⟩
  have zw1 : w.heap.size + 1 ≤ w1.heap.size := by have := hbw1.size; simpa using this
  have hLP0 : Loc _ (w.heap.size) _ _ := (Loc.new _ (by simp) _ _).below hbw1 (by first | omega | (simp; done) | (simp; omega))
  have lP0 := hLP0.cells2
  have yP0 := hLP0.lt
  replace hB := below_th (below_al hB _) hbw1
  go_wp2_with fail
  refine (toSol_u (h0_0.below hB) (by omega)).mono ?_
  rintro e w2 ⟨a_0p, c_0p, a'_0p, c'_0p, vs_p, vs'_p, rfl, hop0, hbw2⟩
  have zw2 : w1.heap.size ≤ w2.heap.size := hbw2.size
  replace hLP0 := hLP0.below hbw2 hLP0.lt
  replace lP0 := hLP0.cells2
  replace yP0 := hLP0.lt
  replace hB := below_th hB hbw2
  have lop0 : ∀ g, SolS a_0p n_0 vs_p a'_0p n'_0 vs'_p g → w1.heap.size ≤ g := hop0.uLo
  have hip0 : ∀ g, SolS a_0p n_0 vs_p a'_0p n'_0 vs'_p g → g < w2.heap.size := hop0.uHi
  go_wp2_with fail
  refine (HS.out _ _ _ _ _ (hop0.sol)).mono ?_
  rintro e w3 ⟨rfl, hbw3⟩
  have zw3 : w2.heap.size ≤ w3.heap.size := hbw3.size
  replace hLP0 := hLP0.below hbw3 hLP0.lt
  replace lP0 := hLP0.cells2
  replace yP0 := hLP0.lt
  replace hop0 := hop0.below hbw3
  replace hB := below_th hB hbw3
  go_wp2_with fail
  refine (toSol_u (h0_0.below hB) (by omega)).mono ?_
  rintro e w4 ⟨a_0x, c_0x, a'_0x, c'_0x, vs_x, vs'_x, rfl, hox0, hbw4⟩
  have zw4 : w3.heap.size ≤ w4.heap.size := hbw4.size
  replace hLP0 := hLP0.below hbw4 hLP0.lt
  replace lP0 := hLP0.cells2
  replace yP0 := hLP0.lt
  replace hB := below_th hB hbw4
  have lox0 : ∀ g, SolS a_0x n_0 vs_x a'_0x n'_0 vs'_x g → w3.heap.size ≤ g := hox0.uLo
  have hix0 : ∀ g, SolS a_0x n_0 vs_x a'_0x n'_0 vs'_x g → g < w4.heap.size := hox0.uHi
  go_wp2_with fail
  refine (HI.out _ _ _ _ _ ((hox0.alloc _).sol)).mono ?_
  rintro e w5 ⟨rfl, hbw5⟩
  have zw5 : w4.heap.size + 1 ≤ w5.heap.size := by have := hbw5.size; simpa using this
  replace hLP0 := (hLP0.alloc _).below hbw5 (hLP0.alloc _).lt
  replace lP0 := hLP0.cells2
  replace yP0 := hLP0.lt
  have hLX0 : Loc _ (w4.heap.size) _ _ := (Loc.new _ (by simp) _ _).below hbw5 (by first | omega | (simp; done) | (simp; omega))
  have lX0 := hLX0.cells2
  have yX0 := hLX0.lt
  replace hox0 := (hox0.alloc _).below hbw5
  replace hB := below_th (below_al hB _) hbw5
  go_wp2_with fail
  have tok1 : True := trivial
  go_region_held3 (fun w' => (w'.cell? ⟨w.heap.size, 0, none⟩ = some (.slice a_0 n_0 c_0) ∧ w'.cell? ⟨w.heap.size, 1, none⟩ = some (.slice a'_0 n'_0 c'_0)) ∧ (w'.cell? ⟨w4.heap.size, 0, none⟩ = some (.slice a_0x n_0 c_0x) ∧ w'.cell? ⟨w4.heap.size, 1, none⟩ = some (.slice a'_0x n'_0 c'_0x)))
    (first | exact ⟨⟨lP0_w7.1, lP0_w7.2.1⟩, ⟨lX0_w7.1, lX0_w7.2.1⟩⟩ | exact ⟨⟨lP0_w6.1, lP0_w6.2.1⟩, ⟨lX0_w6.1, lX0_w6.2.1⟩⟩ | exact ⟨⟨lP0.1, lP0.2.1⟩, ⟨lX0.1, lX0.2.1⟩⟩)
    (first
      | (go_at_call 8; have _t := tok1; clear _t tok1; have tok2 : True := trivial; refine (toSol_u ((h0_0.below hB).drewN 1) (by omega)).mono ?_; rintro e w6 ⟨a_0y, c_0y, a'_0y, c'_0y, vs_y, vs'_y, rfl, hoy0_w6, hbw6⟩; have zw6 : w5.heap.size ≤ w6.heap.size := hbw6.size; have hrw6 : Below w5.heap.size w5 w6 := (Below.drew (Below.refl _ _)).trans hbw6; have hLP0_w6 := hLP0.below hrw6 hLP0.lt; have lP0_w6 := hLP0_w6.cells2; have hLX0_w6 := hLX0.below hrw6 hLX0.lt; have lX0_w6 := hLX0_w6.cells2; have loy0 : ∀ g, SolS a_0y n_0 vs_y a'_0y n'_0 vs'_y g → w5.heap.size ≤ g := hoy0_w6.uLo; have hiy0 : ∀ g, SolS a_0y n_0 vs_y a'_0y n'_0 vs'_y g → g < w6.heap.size := hoy0_w6.uHi)
      | (go_at_call 10; have _t := tok2; clear _t tok2; have tok3 : True := trivial; refine (eqSol_u (hox0.below hrw6).sol hoy0_w6.sol (by omega)).mono ?_; rintro e w7 ⟨rfl, hbw7⟩; have zw7 : w6.heap.size ≤ w7.heap.size := hbw7.size; have hrw7 : Below w5.heap.size w5 w7 := below_th hrw6 hbw7; have hLP0_w7 := hLP0.below hrw7 hLP0.lt; have lP0_w7 := hLP0_w7.cells2; have hLX0_w7 := hLX0.below hrw7 hLX0.lt; have lX0_w7 := hLX0_w7.cells2; have hoy0_w7 := hoy0_w6.below hbw7))
  replace hLP0 := hLP0_w7
  replace lP0 := lP0_w7
  clear hLP0_w6 lP0_w6
  replace yP0 := hLP0.lt
  replace hLX0 := hLX0_w7
  replace lX0 := lX0_w7
  clear hLX0_w6 lX0_w6
  replace yX0 := hLX0.lt
  replace hox0 := hox0.below hrw7
  have hoy0 := hoy0_w7
  replace hB := below_th hB hrw7
  clear tok3
  go_wp2_with fail
  go_ret
  exact ⟨rfl, hB⟩

theorem law_Pos (w : World) (a_0 : Option Addr) (n_0 : Nat) (c_0 : Nat) (xss_0 : List (List Int)) (a'_0 : Option Addr) (n'_0 : Nat) (c'_0 : Nat) (yss_0 : List (List Int)) (h0_0 : Sol w a_0 n_0 xss_0 a'_0 n'_0 yss_0) (h0_1 : n_0 ≤ 9223372036854775807 ∧ n'_0 ≤ 9223372036854775807) : Calls Tryz.prog 3 #[sAgg a_0 n_0 c_0 a'_0 n'_0 c'_0] w fun e w' => e = .returned (.bool true) ∧ Below w.heap.size w w' := by
  refine (Classical.em ((n_0 + tot xss_0 + n'_0 + tot yss_0) ≤ 1048576)).elim (fun c0 => ?_) (fun c0 => law_Pos_big0 w a_0 n_0 c_0 xss_0 a'_0 n'_0 c'_0 yss_0 h0_0 h0_1  (by omega))
  exact law_Pos_small w a_0 n_0 c_0 xss_0 a'_0 n'_0 c'_0 yss_0 h0_0 h0_1  c0

end Go.Proofs.YthgafpeblpnolaaGreat
