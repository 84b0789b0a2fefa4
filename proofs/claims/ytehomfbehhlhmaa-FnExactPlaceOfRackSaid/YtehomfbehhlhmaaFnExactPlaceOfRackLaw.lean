/-
  The walk of the law of PlaceOfRack: it answers true.
  No condition.
-/
import Derived.Test.YtehomfbehhlhmaaPor
import Derived.Test.YtehomfbehhlhmaaUR
import Derived.Test.YtehomfbehhlhmaaBase
import Derived.Deep.RegionHeld3
namespace Go.Proofs.Ytehomfbehhlhmaa
set_option maxRecDepth 100000
set_option linter.unusedVariables false
set_option linter.unusedSimpArgs false
open Go.RowKit

set_option maxHeartbeats 2000000 in
theorem law_Por_big0 (w : World) (a_0 : Option Addr) (n_0 : Nat) (c_0 : Nat) (xss_0 : List (List Int)) (h0_0 : Tbl w a_0 n_0 xss_0) (h0_1 : n_0 ≤ 9223372036854775807)  (hbig : 1048576 < (n_0 + tot xss_0)) : Calls Try.prog 12 #[rAgg a_0 n_0 c_0] w fun e w' => e = .returned (.bool true) ∧ Below w.heap.size w w' := by
  go_enter Try.func12, Try.ntmps12
  have hB : Below w.heap.size w w := Below.refl _ _
  go_wp2_with fail
  refine (szRack_no' ((h0_0.below hB).alloc _) (by omega) (by omega) (by omega) (by omega)).mono ?_
  rintro e w1 ⟨rfl, hbw1⟩
  have zw1 : w.heap.size + 1 ≤ w1.heap.size := by have := hbw1.size; simpa using this
  have hLP0 : Loc _ (w.heap.size) _ _ := (Loc.new _ (by simp) _ _).below hbw1 (by first | omega | (simp; done) | (simp; omega))
  have lP0 := hLP0.cells1
  have yP0 := hLP0.lt
  replace hB := below_th (below_al hB _) hbw1
  go_wp2
  go_ret
  exact ⟨rfl, hB⟩

set_option maxHeartbeats 8000000 in
theorem law_Por_small (w : World) (a_0 : Option Addr) (n_0 : Nat) (c_0 : Nat) (xss_0 : List (List Int)) (h0_0 : Tbl w a_0 n_0 xss_0) (h0_1 : n_0 ≤ 9223372036854775807) (hs0 : (n_0 + tot xss_0) ≤ 1048576) : Calls Try.prog 12 #[rAgg a_0 n_0 c_0] w fun e w' => e = .returned (.bool true) ∧ Below w.heap.size w w' := by
  obtain ⟨rd, code, HS, HI⟩ : ∃ (rd : Int) (code : Int), Hid (∀ (w' : World) (a_0q : Option Addr) (c_0q : Nat), Tbl w' a_0q n_0 xss_0 → Calls Try.prog 61 #[rAgg a_0q n_0 c_0q] w' (RetI w' rd code)) ∧ Hid (∀ (w' : World) (a_0q : Option Addr) (c_0q : Nat), Tbl w' a_0q n_0 xss_0 → Calls Try.prog 63 #[rAgg a_0q n_0 c_0q] w' (RetI w' rd code)) :=
    ⟨_, _, Lib.hid fun w' a_0q c_0q r0 => spec_Por_l a_0q n_0 c_0q xss_0 w' r0 h0_1, Lib.hid fun w' a_0q c_0q r0 => impl_Por_l a_0q n_0 c_0q xss_0 w' r0 h0_1⟩
  have hne : (code != code) = false := by simp
  have hne0 : (rd != rd) = false := by simp
  go_enter Try.func12, Try.ntmps12
  have hB : Below w.heap.size w w := Below.refl _ _
  go_wp2_with fail
  refine (szRack_ok' ((h0_0.below hB).alloc _) (by omega) (by omega)).mono ?_
  rintro e w1 ⟨rfl, hbw1⟩
  have zw1 : w.heap.size + 1 ≤ w1.heap.size := by have := hbw1.size; simpa using this
  have hLP0 : Loc _ (w.heap.size) _ _ := (Loc.new _ (by simp) _ _).below hbw1 (by first | omega | (simp; done) | (simp; omega))
  have lP0 := hLP0.cells1
  have yP0 := hLP0.lt
  replace hB := below_th (below_al hB _) hbw1
  go_wp2_with fail
  refine (toRack_u (h0_0.below hB) (by omega)).mono ?_
  rintro e w2 ⟨a_0p, c_0p, vs_p, rfl, hop0, hbw2⟩
  have zw2 : w1.heap.size ≤ w2.heap.size := hbw2.size
  replace hLP0 := hLP0.below hbw2 hLP0.lt
  replace lP0 := hLP0.cells1
  replace yP0 := hLP0.lt
  replace hB := below_th hB hbw2
  have lop0 : ∀ g, TblS a_0p n_0 vs_p g → w1.heap.size ≤ g := hop0.uLo
  have hip0 : ∀ g, TblS a_0p n_0 vs_p g → g < w2.heap.size := hop0.uHi
  go_wp2_with fail
  refine (HS.out _ _ _ (hop0.tbl)).mono ?_
  rintro e w3 ⟨rfl, hbw3⟩
  have zw3 : w2.heap.size ≤ w3.heap.size := hbw3.size
  replace hLP0 := hLP0.below hbw3 hLP0.lt
  replace lP0 := hLP0.cells1
  replace yP0 := hLP0.lt
  replace hop0 := hop0.below hbw3
  replace hB := below_th hB hbw3
  go_wp2_with fail
  refine (toRack_u (h0_0.below hB) (by omega)).mono ?_
  rintro e w4 ⟨a_0x, c_0x, vs_x, rfl, hox0, hbw4⟩
  have zw4 : w3.heap.size ≤ w4.heap.size := hbw4.size
  replace hLP0 := hLP0.below hbw4 hLP0.lt
  replace lP0 := hLP0.cells1
  replace yP0 := hLP0.lt
  replace hB := below_th hB hbw4
  have lox0 : ∀ g, TblS a_0x n_0 vs_x g → w3.heap.size ≤ g := hox0.uLo
  have hix0 : ∀ g, TblS a_0x n_0 vs_x g → g < w4.heap.size := hox0.uHi
  go_wp2_with fail
  refine (HI.out _ _ _ ((hox0.alloc _).tbl)).mono ?_
  rintro e w5 ⟨rfl, hbw5⟩
  have zw5 : w4.heap.size + 1 ≤ w5.heap.size := by have := hbw5.size; simpa using this
  replace hLP0 := (hLP0.alloc _).below hbw5 (hLP0.alloc _).lt
  replace lP0 := hLP0.cells1
  replace yP0 := hLP0.lt
  have hLX0 : Loc _ (w4.heap.size) _ _ := (Loc.new _ (by simp) _ _).below hbw5 (by first | omega | (simp; done) | (simp; omega))
  have lX0 := hLX0.cells1
  have yX0 := hLX0.lt
  replace hox0 := (hox0.alloc _).below hbw5
  replace hB := below_th (below_al hB _) hbw5
  go_wp2_with fail
  have tok1 : True := trivial
  go_region_held3 (fun w' => (w'.cell? ⟨w.heap.size, 0, none⟩ = some (.slice a_0 n_0 c_0)) ∧ (w'.cell? ⟨w4.heap.size, 0, none⟩ = some (.slice a_0x n_0 c_0x)))
    (first | exact ⟨lP0_w7.1, lX0_w7.1⟩ | exact ⟨lP0_w6.1, lX0_w6.1⟩ | exact ⟨lP0.1, lX0.1⟩)
    (first
      | (go_at_call 62; have _t := tok1; clear _t tok1; have tok2 : True := trivial; refine (toRack_u ((h0_0.below hB).drewN 1) (by omega)).mono ?_; rintro e w6 ⟨a_0y, c_0y, vs_y, rfl, hoy0_w6, hbw6⟩; have zw6 : w5.heap.size ≤ w6.heap.size := hbw6.size; have hrw6 : Below w5.heap.size w5 w6 := (Below.drew (Below.refl _ _)).trans hbw6; have hLP0_w6 := hLP0.below hrw6 hLP0.lt; have lP0_w6 := hLP0_w6.cells1; have hLX0_w6 := hLX0.below hrw6 hLX0.lt; have lX0_w6 := hLX0_w6.cells1; have loy0 : ∀ g, TblS a_0y n_0 vs_y g → w5.heap.size ≤ g := hoy0_w6.uLo; have hiy0 : ∀ g, TblS a_0y n_0 vs_y g → g < w6.heap.size := hoy0_w6.uHi)
      | (go_at_call 64; have _t := tok2; clear _t tok2; have tok3 : True := trivial; refine (eqRack_u (hox0.below hrw6).tbl hoy0_w6.tbl (by omega)).mono ?_; rintro e w7 ⟨rfl, hbw7⟩; have zw7 : w6.heap.size ≤ w7.heap.size := hbw7.size; have hrw7 : Below w5.heap.size w5 w7 := below_th hrw6 hbw7; have hLP0_w7 := hLP0.below hrw7 hLP0.lt; have lP0_w7 := hLP0_w7.cells1; have hLX0_w7 := hLX0.below hrw7 hLX0.lt; have lX0_w7 := hLX0_w7.cells1; have hoy0_w7 := hoy0_w6.below hbw7))
  replace hLP0 := hLP0_w7
  replace lP0 := lP0_w7
  clear hLP0_w6 lP0_w6
  replace yP0 := hLP0.lt
  replace hLX0 := hLX0_w7
  replace lX0 := lX0_w7
  clear hLX0_w6 lX0_w6
  replace yX0 := hLX0.lt
  replace hox0 := hox0.below hrw7
  have hoy0 := hoy0_w7
  replace hB := below_th hB hrw7
  clear tok3
  go_wp2_with fail
  go_ret
  exact ⟨rfl, hB⟩

theorem law_Por (w : World) (a_0 : Option Addr) (n_0 : Nat) (c_0 : Nat) (xss_0 : List (List Int)) (h0_0 : Tbl w a_0 n_0 xss_0) (h0_1 : n_0 ≤ 9223372036854775807) : Calls Try.prog 12 #[rAgg a_0 n_0 c_0] w fun e w' => e = .returned (.bool true) ∧ Below w.heap.size w w' := by
  refine (Classical.em ((n_0 + tot xss_0) ≤ 1048576)).elim (fun c0 => ?_) (fun c0 => law_Por_big0 w a_0 n_0 c_0 xss_0 h0_0 h0_1  (by omega))
  exact law_Por_small w a_0 n_0 c_0 xss_0 h0_0 h0_1  c0

end Go.Proofs.Ytehomfbehhlhmaa
