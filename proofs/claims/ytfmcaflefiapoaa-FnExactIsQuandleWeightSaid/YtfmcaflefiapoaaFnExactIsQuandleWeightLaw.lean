/-
  The walk of the law of IsQuandleWeight: it answers true.
  No condition.
-/
import Derived.Test.YtfmcaflefiapoaaIqB
import Derived.Test.YtfmcaflefiapoaaUR
import Derived.Test.YtfmcaflefiapoaaBase
import Derived.Deep.RegionHeld3
namespace Go.Proofs.Ytfmcaflefiapoaa
set_option maxRecDepth 100000
set_option linter.unusedVariables false
set_option linter.unusedSimpArgs false
open Go.RowKit

set_option maxHeartbeats 2000000 in
theorem law_Iq_big0 (w : World) (a_0 : Option Addr) (n_0 : Nat) (c_0 : Nat) (xss_0 : List (List Int)) (x_1 : Int) (a_2 : Option Addr) (n_2 : Nat) (c_2 : Nat) (xss_2 : List (List Int)) (h0_0 : Tbl w a_0 n_0 xss_0) (h0_1 : n_0 ≤ 9223372036854775807) (h1_0 : I64 x_1) (h2_0 : Tbl w a_2 n_2 xss_2) (h2_1 : n_2 ≤ 9223372036854775807)  (hbig : 1048576 < (n_0 + tot xss_0)) : Calls Try.prog 11 #[rAgg a_0 n_0 c_0, .int .i64 x_1, .slice a_2 n_2 c_2] w fun e w' => e = .returned (.bool true) ∧ Below w.heap.size w w' := by
  go_enter Try.func11, Try.ntmps11
  have hB : Below w.heap.size w w := Below.refl _ _
  go_wp2_with fail
  refine (szRack_no' ((h0_0.below hB).alloc _) (by omega) (by omega) (by omega) (by omega)).mono ?_
  rintro e w1 ⟨rfl, hbw1⟩
  have zw1 : w.heap.size + 1 ≤ w1.heap.size := by have := hbw1.size; simpa using this
  have hLP0 : Loc _ (w.heap.size) _ _ := (Loc.new _ (by simp) _ _).below hbw1 (by first | omega | (simp; done) | (simp; omega))
  have lP0 := hLP0.cells1
  have yP0 := hLP0.lt
  replace hB := below_th (below_al hB _) hbw1
  go_wp2
  go_ret
  exact ⟨rfl, hB⟩

set_option maxHeartbeats 2000000 in
theorem law_Iq_big1 (w : World) (a_0 : Option Addr) (n_0 : Nat) (c_0 : Nat) (xss_0 : List (List Int)) (x_1 : Int) (a_2 : Option Addr) (n_2 : Nat) (c_2 : Nat) (xss_2 : List (List Int)) (h0_0 : Tbl w a_0 n_0 xss_0) (h0_1 : n_0 ≤ 9223372036854775807) (h1_0 : I64 x_1) (h2_0 : Tbl w a_2 n_2 xss_2) (h2_1 : n_2 ≤ 9223372036854775807)  (hpre : (n_0 + tot xss_0) ≤ 1048576) (hbig : 1048576 < (n_0 + tot xss_0) + (n_2 + tot xss_2)) : Calls Try.prog 11 #[rAgg a_0 n_0 c_0, .int .i64 x_1, .slice a_2 n_2 c_2] w fun e w' => e = .returned (.bool true) ∧ Below w.heap.size w w' := by
  go_enter Try.func11, Try.ntmps11
  have hB : Below w.heap.size w w := Below.refl _ _
  go_wp2_with fail
  refine (szRack_ok' ((h0_0.below hB).alloc _) (by omega) (by omega)).mono ?_
  rintro e w1 ⟨rfl, hbw1⟩
  have zw1 : w.heap.size + 1 ≤ w1.heap.size := by have := hbw1.size; simpa using this
  have hLP0 : Loc _ (w.heap.size) _ _ := (Loc.new _ (by simp) _ _).below hbw1 (by first | omega | (simp; done) | (simp; omega))
  have lP0 := hLP0.cells1
  have yP0 := hLP0.lt
  replace hB := below_th (below_al hB _) hbw1
  go_wp2_with fail
  refine (szTbl_no' (h2_0.below hB) (by omega) (by omega) (by omega) (by omega)).mono ?_
  rintro e w2 ⟨rfl, hbw2⟩
  have zw2 : w1.heap.size ≤ w2.heap.size := hbw2.size
  replace hLP0 := hLP0.below hbw2 hLP0.lt
  replace lP0 := hLP0.cells1
  replace yP0 := hLP0.lt
  replace hB := below_th hB hbw2
  go_wp2
  go_ret
  exact ⟨rfl, hB⟩

set_option maxHeartbeats 8000000 in
theorem law_Iq_small (w : World) (a_0 : Option Addr) (n_0 : Nat) (c_0 : Nat) (xss_0 : List (List Int)) (x_1 : Int) (a_2 : Option Addr) (n_2 : Nat) (c_2 : Nat) (xss_2 : List (List Int)) (h0_0 : Tbl w a_0 n_0 xss_0) (h0_1 : n_0 ≤ 9223372036854775807) (h1_0 : I64 x_1) (h2_0 : Tbl w a_2 n_2 xss_2) (h2_1 : n_2 ≤ 9223372036854775807) (hs0 : (n_0 + tot xss_0) + (n_2 + tot xss_2) ≤ 1048576) : Calls Try.prog 11 #[rAgg a_0 n_0 c_0, .int .i64 x_1, .slice a_2 n_2 c_2] w fun e w' => e = .returned (.bool true) ∧ Below w.heap.size w w' := by
  obtain ⟨rd, code, HS, HI⟩ : ∃ (rd : Bool) (code : Int), Hid (∀ (w' : World) (a_0q : Option Addr) (c_0q : Nat) (a_2q : Option Addr) (c_2q : Nat), Tbl w' a_0q n_0 xss_0 → Tbl w' a_2q n_2 xss_2 → Calls Try.prog 46 #[rAgg a_0q n_0 c_0q, .int .i64 x_1, .slice a_2q n_2 c_2q] w' (RetO w' rd code)) ∧ Hid (∀ (w' : World) (a_0q : Option Addr) (c_0q : Nat) (a_2q : Option Addr) (c_2q : Nat), Tbl w' a_0q n_0 xss_0 → Tbl w' a_2q n_2 xss_2 → Calls Try.prog 48 #[rAgg a_0q n_0 c_0q, .int .i64 x_1, .slice a_2q n_2 c_2q] w' (RetO w' rd code)) :=
    ⟨_, _, Lib.hid fun w' a_0q c_0q a_2q c_2q r0 r2 => spec_Iq_l a_0q n_0 c_0q xss_0 x_1 a_2q n_2 c_2q xss_2 w' r0 h0_1 h1_0 r2 h2_1, Lib.hid fun w' a_0q c_0q a_2q c_2q r0 r2 => impl_Iq_l a_0q n_0 c_0q xss_0 x_1 a_2q n_2 c_2q xss_2 w' r0 h0_1 h1_0 r2 h2_1⟩
  have hne : (code != code) = false := by simp
  have hne0 : (rd != rd) = false := by simp
  go_enter Try.func11, Try.ntmps11
  have hB : Below w.heap.size w w := Below.refl _ _
  go_wp2_with fail
  refine (szRack_ok' ((h0_0.below hB).alloc _) (by omega) (by omega)).mono ?_
  rintro e w1 ⟨rfl, hbw1⟩
  have zw1 : w.heap.size + 1 ≤ w1.heap.size := by have := hbw1.size; simpa using this
  have hLP0 : Loc _ (w.heap.size) _ _ := (Loc.new _ (by simp) _ _).below hbw1 (by first | omega | (simp; done) | (simp; omega))
  have lP0 := hLP0.cells1
  have yP0 := hLP0.lt
  replace hB := below_th (below_al hB _) hbw1
  go_wp2_with fail
  refine (szTbl_ok' (h2_0.below hB) (by omega) (by omega)).mono ?_
  rintro e w2 ⟨rfl, hbw2⟩
  have zw2 : w1.heap.size ≤ w2.heap.size := hbw2.size
  replace hLP0 := hLP0.below hbw2 hLP0.lt
  replace lP0 := hLP0.cells1
  replace yP0 := hLP0.lt
  replace hB := below_th hB hbw2
  go_wp2_with fail
  refine (toRack_u (h0_0.below hB) (by omega)).mono ?_
  rintro e w3 ⟨a_0p, c_0p, vs_p, rfl, hop0, hbw3⟩
  have zw3 : w2.heap.size ≤ w3.heap.size := hbw3.size
  replace hLP0 := hLP0.below hbw3 hLP0.lt
  replace lP0 := hLP0.cells1
  replace yP0 := hLP0.lt
  replace hB := below_th hB hbw3
  have lop0 : ∀ g, TblS a_0p n_0 vs_p g → w2.heap.size ≤ g := hop0.uLo
  have hip0 : ∀ g, TblS a_0p n_0 vs_p g → g < w3.heap.size := hop0.uHi
  go_wp2_with fail
  refine (toTbl_u (h2_0.below hB) (by omega)).mono ?_
  rintro e w4 ⟨a_2p, c_2p, vs_p, rfl, hop2, hbw4⟩
  have zw4 : w3.heap.size ≤ w4.heap.size := hbw4.size
  replace hLP0 := hLP0.below hbw4 hLP0.lt
  replace lP0 := hLP0.cells1
  replace yP0 := hLP0.lt
  replace hop0 := hop0.below hbw4
  replace hB := below_th hB hbw4
  have lop2 : ∀ g, TblS a_2p n_2 vs_p g → w3.heap.size ≤ g := hop2.uLo
  have hip2 : ∀ g, TblS a_2p n_2 vs_p g → g < w4.heap.size := hop2.uHi
  go_wp2_with fail
  refine (HS.out _ _ _ _ _ (hop0.tbl) (hop2.tbl)).mono ?_
  rintro e w5 ⟨rfl, hbw5⟩
  have zw5 : w4.heap.size ≤ w5.heap.size := hbw5.size
  replace hLP0 := hLP0.below hbw5 hLP0.lt
  replace lP0 := hLP0.cells1
  replace yP0 := hLP0.lt
  replace hop0 := hop0.below hbw5
  replace hop2 := hop2.below hbw5
  replace hB := below_th hB hbw5
  go_wp2_with fail
  refine (toRack_u (h0_0.below hB) (by omega)).mono ?_
  rintro e w6 ⟨a_0x, c_0x, vs_x, rfl, hox0, hbw6⟩
  have zw6 : w5.heap.size ≤ w6.heap.size := hbw6.size
  replace hLP0 := hLP0.below hbw6 hLP0.lt
  replace lP0 := hLP0.cells1
  replace yP0 := hLP0.lt
  replace hB := below_th hB hbw6
  have lox0 : ∀ g, TblS a_0x n_0 vs_x g → w5.heap.size ≤ g := hox0.uLo
  have hix0 : ∀ g, TblS a_0x n_0 vs_x g → g < w6.heap.size := hox0.uHi
  go_wp2_with fail
  refine (toTbl_u ((h2_0.below hB).alloc _) (by omega)).mono ?_
  rintro e w7 ⟨a_2x, c_2x, vs_x, rfl, hox2, hbw7⟩
  have zw7 : w6.heap.size + 1 ≤ w7.heap.size := by have := hbw7.size; simpa using this
  replace hLP0 := (hLP0.alloc _).below hbw7 (hLP0.alloc _).lt
  replace lP0 := hLP0.cells1
  replace yP0 := hLP0.lt
  have hLX0 : Loc _ (w6.heap.size) _ _ := (Loc.new _ (by simp) _ _).below hbw7 (by first | omega | (simp; done) | (simp; omega))
  have lX0 := hLX0.cells1
  have yX0 := hLX0.lt
  replace hox0 := (hox0.alloc _).below hbw7
  replace hB := below_th (below_al hB _) hbw7
  have lox2 : ∀ g, TblS a_2x n_2 vs_x g → w6.heap.size + 1 ≤ g := fun g hg => by have := hox2.uLo g hg; simpa using this
  have hix2 : ∀ g, TblS a_2x n_2 vs_x g → g < w7.heap.size := hox2.uHi
  go_wp2_with fail
  refine (HI.out _ _ _ _ _ (hox0.tbl) (hox2.tbl)).mono ?_
  rintro e w8 ⟨rfl, hbw8⟩
  have zw8 : w7.heap.size ≤ w8.heap.size := hbw8.size
  replace hLP0 := hLP0.below hbw8 hLP0.lt
  replace lP0 := hLP0.cells1
  replace yP0 := hLP0.lt
  replace hLX0 := hLX0.below hbw8 hLX0.lt
  replace lX0 := hLX0.cells1
  replace yX0 := hLX0.lt
  replace hox0 := hox0.below hbw8
  replace hox2 := hox2.below hbw8
  replace hB := below_th hB hbw8
  go_wp2_with fail
  have tok1 : True := trivial
  go_region_held3 (fun w' => (w'.cell? ⟨w.heap.size, 0, none⟩ = some (.slice a_0 n_0 c_0)) ∧ (w'.cell? ⟨w6.heap.size, 0, none⟩ = some (.slice a_0x n_0 c_0x)))
    (first | exact ⟨lP0_w10.1, lX0_w10.1⟩ | exact ⟨lP0_w9.1, lX0_w9.1⟩ | exact ⟨lP0.1, lX0.1⟩)
    (first
      | (go_at_call 47; have _t := tok1; clear _t tok1; have tok2 : True := trivial; refine (toRack_u ((h0_0.below hB).drewN 1) (by omega)).mono ?_; rintro e w9 ⟨a_0y, c_0y, vs_y, rfl, hoy0_w9, hbw9⟩; have zw9 : w8.heap.size ≤ w9.heap.size := hbw9.size; have hrw9 : Below w8.heap.size w8 w9 := (Below.drew (Below.refl _ _)).trans hbw9; have hLP0_w9 := hLP0.below hrw9 hLP0.lt; have lP0_w9 := hLP0_w9.cells1; have hLX0_w9 := hLX0.below hrw9 hLX0.lt; have lX0_w9 := hLX0_w9.cells1; have loy0 : ∀ g, TblS a_0y n_0 vs_y g → w8.heap.size ≤ g := hoy0_w9.uLo; have hiy0 : ∀ g, TblS a_0y n_0 vs_y g → g < w9.heap.size := hoy0_w9.uHi)
      | (go_at_call 49; have _t := tok2; clear _t tok2; have tok3 : True := trivial; refine (eqRack_u (hox0.below hrw9).tbl hoy0_w9.tbl (by omega)).mono ?_; rintro e w10 ⟨rfl, hbw10⟩; have zw10 : w9.heap.size ≤ w10.heap.size := hbw10.size; have hrw10 : Below w8.heap.size w8 w10 := below_th hrw9 hbw10; have hLP0_w10 := hLP0.below hrw10 hLP0.lt; have lP0_w10 := hLP0_w10.cells1; have hLX0_w10 := hLX0.below hrw10 hLX0.lt; have lX0_w10 := hLX0_w10.cells1; have hoy0_w10 := hoy0_w9.below hbw10))
  replace hLP0 := hLP0_w10
  replace lP0 := lP0_w10
  clear hLP0_w9 lP0_w9
  replace yP0 := hLP0.lt
  replace hLX0 := hLX0_w10
  replace lX0 := lX0_w10
  clear hLX0_w9 lX0_w9
  replace yX0 := hLX0.lt
  replace hox0 := hox0.below hrw10
  replace hox2 := hox2.below hrw10
  have hoy0 := hoy0_w10
  replace hB := below_th hB hrw10
  clear tok3
  go_wp2_with fail
  refine (toTbl_u (h2_0.below hB) (by omega)).mono ?_
  rintro e w11 ⟨a_2y, c_2y, vs_y, rfl, hoy2, hbw11⟩
  have zw11 : w10.heap.size ≤ w11.heap.size := hbw11.size
  replace hLP0 := hLP0.below hbw11 hLP0.lt
  replace lP0 := hLP0.cells1
  replace yP0 := hLP0.lt
  replace hLX0 := hLX0.below hbw11 hLX0.lt
  replace lX0 := hLX0.cells1
  replace yX0 := hLX0.lt
  replace hox0 := hox0.below hbw11
  replace hox2 := hox2.below hbw11
  replace hB := below_th hB hbw11
  have loy2 : ∀ g, TblS a_2y n_2 vs_y g → w10.heap.size ≤ g := hoy2.uLo
  have hiy2 : ∀ g, TblS a_2y n_2 vs_y g → g < w11.heap.size := hoy2.uHi
  go_wp2_with fail
  refine (eqTbl_u (hox2.tbl) (hoy2.tbl) (by omega)).mono ?_
  rintro e w12 ⟨rfl, hbw12⟩
  have zw12 : w11.heap.size ≤ w12.heap.size := hbw12.size
  replace hLP0 := hLP0.below hbw12 hLP0.lt
  replace lP0 := hLP0.cells1
  replace yP0 := hLP0.lt
  replace hLX0 := hLX0.below hbw12 hLX0.lt
  replace lX0 := hLX0.cells1
  replace yX0 := hLX0.lt
  replace hox0 := hox0.below hbw12
  replace hox2 := hox2.below hbw12
  replace hoy2 := hoy2.below hbw12
  replace hB := below_th hB hbw12
  go_wp2_with fail
  go_ret
  exact ⟨rfl, hB⟩

theorem law_Iq (w : World) (a_0 : Option Addr) (n_0 : Nat) (c_0 : Nat) (xss_0 : List (List Int)) (h0_0 : Tbl w a_0 n_0 xss_0) (h0_1 : n_0 ≤ 9223372036854775807) (x_1 : Int) (h1_0 : I64 x_1) (a_2 : Option Addr) (n_2 : Nat) (c_2 : Nat) (xss_2 : List (List Int)) (h2_0 : Tbl w a_2 n_2 xss_2) (h2_1 : n_2 ≤ 9223372036854775807) : Calls Try.prog 11 #[rAgg a_0 n_0 c_0, .int .i64 x_1, .slice a_2 n_2 c_2] w fun e w' => e = .returned (.bool true) ∧ Below w.heap.size w w' := by
  refine (Classical.em ((n_0 + tot xss_0) ≤ 1048576)).elim (fun c0 => ?_) (fun c0 => law_Iq_big0 w a_0 n_0 c_0 xss_0 x_1 a_2 n_2 c_2 xss_2 h0_0 h0_1 h1_0 h2_0 h2_1  (by omega))
  refine (Classical.em ((n_0 + tot xss_0) + (n_2 + tot xss_2) ≤ 1048576)).elim (fun c1 => ?_) (fun c1 => law_Iq_big1 w a_0 n_0 c_0 xss_0 x_1 a_2 n_2 c_2 xss_2 h0_0 h0_1 h1_0 h2_0 h2_1  c0 (by omega))
  exact law_Iq_small w a_0 n_0 c_0 xss_0 x_1 a_2 n_2 c_2 xss_2 h0_0 h0_1 h1_0 h2_0 h2_1  c1

end Go.Proofs.Ytfmcaflefiapoaa
