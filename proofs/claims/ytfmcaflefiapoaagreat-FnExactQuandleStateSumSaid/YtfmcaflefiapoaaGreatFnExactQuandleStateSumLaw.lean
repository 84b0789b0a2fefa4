/-
  The walk of the law of QuandleStateSum: it answers true.
  No condition.
-/
import Derived.Test.YtfmcaflefiapoaaGreatQsB
import Derived.Test.YtfmcaflefiapoaaGreatBase
import Derived.Test.YtfmcaflefiapoaaGreatUR
import Derived.Deep.RegionHeld3
namespace Go.Proofs.YtfmcaflefiapoaaGreat
set_option maxRecDepth 100000
set_option linter.unusedVariables false
set_option linter.unusedSimpArgs false
open Go.RowKit

set_option maxHeartbeats 2000000 in
theorem law_Qs_big0 (w : World) (a_0 : Option Addr) (n_0 : Nat) (c_0 : Nat) (xss_0 : List (List Int)) (x_1 : Int) (a_2 : Option Addr) (n_2 : Nat) (c_2 : Nat) (xss_2 : List (List Int)) (s_3 : Int) (a_3 : Option Addr) (n_3 : Nat) (c_3 : Nat) (xs_3 : List Int) (h0_0 : Tbl w a_0 n_0 xss_0) (h0_1 : n_0 ≤ 9223372036854775807) (h1_0 : I64 x_1) (h2_0 : Tbl w a_2 n_2 xss_2) (h2_1 : n_2 ≤ 9223372036854775807) (h3_0 : I64 s_3) (h3_1 : Row w a_3 n_3 xs_3) (h3_2 : n_3 ≤ 9223372036854775807) (h3_3 : I64s xs_3)  (hbig : 1048576 < (n_0 + tot xss_0)) : Calls Tryz.prog 3 #[rAgg a_0 n_0 c_0, .int .i64 x_1, .slice a_2 n_2 c_2, bAgg s_3 a_3 n_3 c_3] w fun e w' => e = .returned (.bool true) ∧ Below w.heap.size w w' := by
  go_enter Tryz.func3, Tryz.ntmps3
  have hB : Below w.heap.size w w := Below.refl _ _
  go_wp2_with fail
  refine (szRack_no' (((h0_0.below hB).alloc _).alloc _) (by omega) (by omega) (by omega) (by omega)).mono ?_
  rintro e w1 ⟨rfl, hbw1⟩
  have zw1 : w.heap.size + 2 ≤ w1.heap.size := by have := hbw1.size; simpa using this
  have hLP0 : Loc _ (w.heap.size) _ _ := ((Loc.new _ (by simp) _ _).alloc _).below hbw1 (by first | omega | (simp; done) | (simp; omega))
  have lP0 := hLP0.cells1
  have yP0 := hLP0.lt
  have hLP3 : Loc _ (w.heap.size + 1) _ _ := (Loc.new _ (by simp) _ _).below hbw1 (by first | omega | (simp; done) | (simp; omega))
  have lP3 := hLP3.cells2
  have yP3 := hLP3.lt
  replace hB := below_th (below_al (below_al hB _) _) hbw1
  go_wp2
  go_ret
  exact ⟨rfl, hB⟩

set_option maxHeartbeats 2000000 in
theorem law_Qs_big1 (w : World) (a_0 : Option Addr) (n_0 : Nat) (c_0 : Nat) (xss_0 : List (List Int)) (x_1 : Int) (a_2 : Option Addr) (n_2 : Nat) (c_2 : Nat) (xss_2 : List (List Int)) (s_3 : Int) (a_3 : Option Addr) (n_3 : Nat) (c_3 : Nat) (xs_3 : List Int) (h0_0 : Tbl w a_0 n_0 xss_0) (h0_1 : n_0 ≤ 9223372036854775807) (h1_0 : I64 x_1) (h2_0 : Tbl w a_2 n_2 xss_2) (h2_1 : n_2 ≤ 9223372036854775807) (h3_0 : I64 s_3) (h3_1 : Row w a_3 n_3 xs_3) (h3_2 : n_3 ≤ 9223372036854775807) (h3_3 : I64s xs_3)  (hpre : (n_0 + tot xss_0) ≤ 1048576) (hbig : 1048576 < (n_0 + tot xss_0) + (n_2 + tot xss_2)) : Calls Tryz.prog 3 #[rAgg a_0 n_0 c_0, .int .i64 x_1, .slice a_2 n_2 c_2, bAgg s_3 a_3 n_3 c_3] w fun e w' => e = .returned (.bool true) ∧ Below w.heap.size w w' := by
  go_enter Tryz.func3, Tryz.ntmps3
  have hB : Below w.heap.size w w := Below.refl _ _
  go_wp2_with fail
  refine (szRack_ok' (((h0_0.below hB).alloc _).alloc _) (by omega) (by omega)).mono ?_
  rintro e w1 ⟨rfl, hbw1⟩
  have zw1 : w.heap.size + 2 ≤ w1.heap.size := by have := hbw1.size; simpa using this
  have hLP0 : Loc _ (w.heap.size) _ _ := ((Loc.new _ (by simp) _ _).alloc _).below hbw1 (by first | omega | (simp; done) | (simp; omega))
  have lP0 := hLP0.cells1
  have yP0 := hLP0.lt
  have hLP3 : Loc _ (w.heap.size + 1) _ _ := (Loc.new _ (by simp) _ _).below hbw1 (by first | omega | (simp; done) | (simp; omega))
  have lP3 := hLP3.cells2
  have yP3 := hLP3.lt
  replace hB := below_th (below_al (below_al hB _) _) hbw1
  go_wp2_with fail
  refine (szTbl_no' (h2_0.below hB) (by omega) (by omega) (by omega) (by omega)).mono ?_
  rintro e w2 ⟨rfl, hbw2⟩
  have zw2 : w1.heap.size ≤ w2.heap.size := hbw2.size
  replace hLP0 := hLP0.below hbw2 hLP0.lt
  replace lP0 := hLP0.cells1
  replace yP0 := hLP0.lt
  replace hLP3 := hLP3.below hbw2 hLP3.lt
  replace lP3 := hLP3.cells2
  replace yP3 := hLP3.lt
  replace hB := below_th hB hbw2
  go_wp2
  go_ret
  exact ⟨rfl, hB⟩

set_option maxHeartbeats 2000000 in
theorem law_Qs_big2 (w : World) (a_0 : Option Addr) (n_0 : Nat) (c_0 : Nat) (xss_0 : List (List Int)) (x_1 : Int) (a_2 : Option Addr) (n_2 : Nat) (c_2 : Nat) (xss_2 : List (List Int)) (s_3 : Int) (a_3 : Option Addr) (n_3 : Nat) (c_3 : Nat) (xs_3 : List Int) (h0_0 : Tbl w a_0 n_0 xss_0) (h0_1 : n_0 ≤ 9223372036854775807) (h1_0 : I64 x_1) (h2_0 : Tbl w a_2 n_2 xss_2) (h2_1 : n_2 ≤ 9223372036854775807) (h3_0 : I64 s_3) (h3_1 : Row w a_3 n_3 xs_3) (h3_2 : n_3 ≤ 9223372036854775807) (h3_3 : I64s xs_3)  (hpre : (n_0 + tot xss_0) + (n_2 + tot xss_2) ≤ 1048576) (hbig : 1048576 < (n_0 + tot xss_0) + (n_2 + tot xss_2) + (n_3)) : Calls Tryz.prog 3 #[rAgg a_0 n_0 c_0, .int .i64 x_1, .slice a_2 n_2 c_2, bAgg s_3 a_3 n_3 c_3] w fun e w' => e = .returned (.bool true) ∧ Below w.heap.size w w' := by
  go_enter Tryz.func3, Tryz.ntmps3
  have hB : Below w.heap.size w w := Below.refl _ _
  go_wp2_with fail
  refine (szRack_ok' (((h0_0.below hB).alloc _).alloc _) (by omega) (by omega)).mono ?_
  rintro e w1 ⟨rfl, hbw1⟩
  have zw1 : w.heap.size + 2 ≤ w1.heap.size := by have := hbw1.size; simpa using this
  have hLP0 : Loc _ (w.heap.size) _ _ := ((Loc.new _ (by simp) _ _).alloc _).below hbw1 (by first | omega | (simp; done) | (simp; omega))
  have lP0 := hLP0.cells1
  have yP0 := hLP0.lt
  have hLP3 : Loc _ (w.heap.size + 1) _ _ := (Loc.new _ (by simp) _ _).below hbw1 (by first | omega | (simp; done) | (simp; omega))
  have lP3 := hLP3.cells2
  have yP3 := hLP3.lt
  replace hB := below_th (below_al (below_al hB _) _) hbw1
  go_wp2_with fail
  refine (szTbl_ok' (h2_0.below hB) (by omega) (by omega)).mono ?_
  rintro e w2 ⟨rfl, hbw2⟩
  have zw2 : w1.heap.size ≤ w2.heap.size := hbw2.size
  replace hLP0 := hLP0.below hbw2 hLP0.lt
  replace lP0 := hLP0.cells1
  replace yP0 := hLP0.lt
  replace hLP3 := hLP3.below hbw2 hLP3.lt
  replace lP3 := hLP3.cells2
  replace yP3 := hLP3.lt
  replace hB := below_th hB hbw2
  go_wp2_with fail
  refine (szBraid_no' (h3_1.below hB) (by omega) (by omega) (by omega) (by omega)).mono ?_
  rintro e w3 ⟨rfl, hbw3⟩
  have zw3 : w2.heap.size ≤ w3.heap.size := hbw3.size
  replace hLP0 := hLP0.below hbw3 hLP0.lt
  replace lP0 := hLP0.cells1
  replace yP0 := hLP0.lt
  replace hLP3 := hLP3.below hbw3 hLP3.lt
  replace lP3 := hLP3.cells2
  replace yP3 := hLP3.lt
  replace hB := below_th hB hbw3
  go_wp2
  go_ret
  exact ⟨rfl, hB⟩

set_option maxHeartbeats 8000000 in
theorem law_Qs_small (w : World) (a_0 : Option Addr) (n_0 : Nat) (c_0 : Nat) (xss_0 : List (List Int)) (x_1 : Int) (a_2 : Option Addr) (n_2 : Nat) (c_2 : Nat) (xss_2 : List (List Int)) (s_3 : Int) (a_3 : Option Addr) (n_3 : Nat) (c_3 : Nat) (xs_3 : List Int) (h0_0 : Tbl w a_0 n_0 xss_0) (h0_1 : n_0 ≤ 9223372036854775807) (h1_0 : I64 x_1) (h2_0 : Tbl w a_2 n_2 xss_2) (h2_1 : n_2 ≤ 9223372036854775807) (h3_0 : I64 s_3) (h3_1 : Row w a_3 n_3 xs_3) (h3_2 : n_3 ≤ 9223372036854775807) (h3_3 : I64s xs_3) (hs0 : (n_0 + tot xss_0) + (n_2 + tot xss_2) + (n_3) ≤ 1048576) : Calls Tryz.prog 3 #[rAgg a_0 n_0 c_0, .int .i64 x_1, .slice a_2 n_2 c_2, bAgg s_3 a_3 n_3 c_3] w fun e w' => e = .returned (.bool true) ∧ Below w.heap.size w w' := by
  obtain ⟨rd0, code, hlen, HS, HI⟩ : ∃ (rd0 : List Int) (code : Int), List.length rd0 ≤ 1000000 ∧ Hid (∀ (w' : World) (a_0q : Option Addr) (c_0q : Nat) (a_2q : Option Addr) (c_2q : Nat) (a_3q : Option Addr) (c_3q : Nat), Tbl w' a_0q n_0 xss_0 → Tbl w' a_2q n_2 xss_2 → Row w' a_3q n_3 xs_3 → (n_3 ≤ c_3q ∧ c_3q ≤ 9223372036854775807) → Calls Tryz.prog 7 #[rAgg a_0q n_0 c_0q, .int .i64 x_1, .slice a_2q n_2 c_2q, bAgg s_3 a_3q n_3 c_3q] w' (RetR w' rd0 code)) ∧ Hid (∀ (w' : World) (a_0q : Option Addr) (c_0q : Nat) (a_2q : Option Addr) (c_2q : Nat) (a_3q : Option Addr) (c_3q : Nat), Tbl w' a_0q n_0 xss_0 → Tbl w' a_2q n_2 xss_2 → Row w' a_3q n_3 xs_3 → (n_3 ≤ c_3q ∧ c_3q ≤ 9223372036854775807) → Calls Tryz.prog 11 #[rAgg a_0q n_0 c_0q, .int .i64 x_1, .slice a_2q n_2 c_2q, bAgg s_3 a_3q n_3 c_3q] w' (RetR w' rd0 code)) :=
    ⟨_, _, Qs_len xss_0 x_1 xss_2 s_3 xs_3, Lib.hid fun w' a_0q c_0q a_2q c_2q a_3q c_3q r0 r2 r3 p3 => spec_Qs_l a_0q n_0 c_0q xss_0 x_1 a_2q n_2 c_2q xss_2 s_3 a_3q n_3 c_3q xs_3 w' r0 h0_1 h1_0 r2 h2_1 h3_0 r3 h3_2 h3_3 p3, Lib.hid fun w' a_0q c_0q a_2q c_2q a_3q c_3q r0 r2 r3 p3 => impl_Qs_l a_0q n_0 c_0q xss_0 x_1 a_2q n_2 c_2q xss_2 s_3 a_3q n_3 c_3q xs_3 w' r0 h0_1 h1_0 r2 h2_1 h3_0 r3 h3_2 h3_3 p3⟩
  have hne : (code != code) = false := by simp
  go_enter Tryz.func3, Tryz.ntmps3
  have hB : Below w.heap.size w w := Below.refl _ _
  go_wp2_with fail
  refine (szRack_ok' (((h0_0.below hB).alloc _).alloc _) (by omega) (by omega)).mono ?_
  rintro e w1 ⟨rfl, hbw1⟩
  have zw1 : w.heap.size + 2 ≤ w1.heap.size := by have := hbw1.size; simpa using this
  have hLP0 : Loc _ (w.heap.size) _ _ := ((Loc.new _ (by simp) _ _).alloc _).below hbw1 (by first | omega | (simp; done) | (simp; omega))
  have lP0 := hLP0.cells1
  have yP0 := hLP0.lt
  have hLP3 : Loc _ (w.heap.size + 1) _ _ := (Loc.new _ (by simp) _ _).below hbw1 (by first | omega | (simp; done) | (simp; omega))
  have lP3 := hLP3.cells2
  have yP3 := hLP3.lt
  replace hB := below_th (below_al (below_al hB _) _) hbw1
  go_wp2_with fail
  refine (szTbl_ok' (h2_0.below hB) (by omega) (by omega)).mono ?_
  rintro e w2 ⟨rfl, hbw2⟩
  have zw2 : w1.heap.size ≤ w2.heap.size := hbw2.size
  replace hLP0 := hLP0.below hbw2 hLP0.lt
  replace lP0 := hLP0.cells1
  replace yP0 := hLP0.lt
  replace hLP3 := hLP3.below hbw2 hLP3.lt
  replace lP3 := hLP3.cells2
  replace yP3 := hLP3.lt
  replace hB := below_th hB hbw2
  go_wp2_with fail
  refine (szBraid_ok' (h3_1.below hB) (by omega) (by omega)).mono ?_
  rintro e w3 ⟨rfl, hbw3⟩
  have zw3 : w2.heap.size ≤ w3.heap.size := hbw3.size
  replace hLP0 := hLP0.below hbw3 hLP0.lt
  replace lP0 := hLP0.cells1
  replace yP0 := hLP0.lt
  replace hLP3 := hLP3.below hbw3 hLP3.lt
  replace lP3 := hLP3.cells2
  replace yP3 := hLP3.lt
  replace hB := below_th hB hbw3
  go_wp2_with fail
  have tok1 : True := trivial
  go_region_held3 (fun w' => (w'.cell? ⟨w.heap.size, 0, none⟩ = some (.slice a_0 n_0 c_0)) ∧ (w'.cell? ⟨w.heap.size + 1, 0, none⟩ = some (.int .i64 s_3) ∧ w'.cell? ⟨w.heap.size + 1, 1, none⟩ = some (.slice a_3 n_3 c_3)))
    (first | exact ⟨lP0_w7.1, ⟨lP3_w7.1, lP3_w7.2.1⟩⟩ | exact ⟨lP0_w6.1, ⟨lP3_w6.1, lP3_w6.2.1⟩⟩ | exact ⟨lP0_w5.1, ⟨lP3_w5.1, lP3_w5.2.1⟩⟩ | exact ⟨lP0_w4.1, ⟨lP3_w4.1, lP3_w4.2.1⟩⟩ | exact ⟨lP0.1, ⟨lP3.1, lP3.2.1⟩⟩)
    (first
      | (go_at_call 8; have _t := tok1; clear _t tok1; have tok2 : True := trivial; refine (toRack_u ((h0_0.below hB).drewN 1) (by omega)).mono ?_; rintro e w4 ⟨a_0p, c_0p, vs_p, rfl, hop0_w4, hbw4⟩; have zw4 : w3.heap.size ≤ w4.heap.size := hbw4.size; have hrw4 : Below w3.heap.size w3 w4 := (Below.drew (Below.refl _ _)).trans hbw4; have hLP0_w4 := hLP0.below hrw4 hLP0.lt; have lP0_w4 := hLP0_w4.cells1; have hLP3_w4 := hLP3.below hrw4 hLP3.lt; have lP3_w4 := hLP3_w4.cells2; have lop0 : ∀ g, TblS a_0p n_0 vs_p g → w3.heap.size ≤ g := hop0_w4.uLo; have hip0 : ∀ g, TblS a_0p n_0 vs_p g → g < w4.heap.size := hop0_w4.uHi)
      | (go_at_call 9; have _t := tok2; clear _t tok2; have tok3 : True := trivial; refine (toTbl_u (h2_0.below (below_th hB hrw4)) (by omega)).mono ?_; rintro e w5 ⟨a_2p, c_2p, vs_p, rfl, hop2_w5, hbw5⟩; have zw5 : w4.heap.size ≤ w5.heap.size := hbw5.size; have hrw5 : Below w3.heap.size w3 w5 := below_th hrw4 hbw5; have hLP0_w5 := hLP0.below hrw5 hLP0.lt; have lP0_w5 := hLP0_w5.cells1; have hLP3_w5 := hLP3.below hrw5 hLP3.lt; have lP3_w5 := hLP3_w5.cells2; have hop0_w5 := hop0_w4.below hbw5; have lop2 : ∀ g, TblS a_2p n_2 vs_p g → w4.heap.size ≤ g := hop2_w5.uLo; have hip2 : ∀ g, TblS a_2p n_2 vs_p g → g < w5.heap.size := hop2_w5.uHi)
      | (go_at_call 10; have _t := tok3; clear _t tok3; have tok4 : True := trivial; refine (toBraid_u (h3_1.below (below_th hB hrw5)) (by omega)).mono ?_; rintro e w6 ⟨a_3p, c_3p, rfl, hop3_w6, hbw6⟩; have zw6 : w5.heap.size ≤ w6.heap.size := hbw6.size; have hrw6 : Below w3.heap.size w3 w6 := below_th hrw5 hbw6; have hLP0_w6 := hLP0.below hrw6 hLP0.lt; have lP0_w6 := hLP0_w6.cells1; have hLP3_w6 := hLP3.below hrw6 hLP3.lt; have lP3_w6 := hLP3_w6.cells2; have hop0_w6 := hop0_w5.below hbw6; have hop2_w6 := hop2_w5.below hbw6; have cpp3 := hop3_w6.cap; have lop3 : ∀ g, RowS a_3p g → w5.heap.size ≤ g := hop3_w6.uLo; have hip3 : ∀ g, RowS a_3p g → g < w6.heap.size := hop3_w6.uHi)
      | (go_at_call 7; have _t := tok4; clear _t tok4; have tok5 : True := trivial; refine (HS.out _ _ _ _ _ _ _ hop0_w6.tbl hop2_w6.tbl hop3_w6.row cpp3).mono ?_; rintro e w7 ⟨aw, nw, cw, rfl, how_w7, hbw7⟩; have zw7 : w6.heap.size ≤ w7.heap.size := hbw7.size; have hrw7 : Below w3.heap.size w3 w7 := below_th hrw6 hbw7; have hLP0_w7 := hLP0.below hrw7 hLP0.lt; have lP0_w7 := hLP0_w7.cells1; have hLP3_w7 := hLP3.below hrw7 hLP3.lt; have lP3_w7 := hLP3_w7.cells2; have hop0_w7 := hop0_w6.below hbw7; have hop2_w7 := hop2_w6.below hbw7; have hop3_w7 := hop3_w6.below hbw7; have low : ∀ g, RowS aw g → w6.heap.size ≤ g := how_w7.uLo; have hiw : ∀ g, RowS aw g → g < w7.heap.size := how_w7.uHi))
  replace hLP0 := hLP0_w7
  replace lP0 := lP0_w7
  clear hLP0_w6 lP0_w6 hLP0_w5 lP0_w5 hLP0_w4 lP0_w4
  replace yP0 := hLP0.lt
  replace hLP3 := hLP3_w7
  replace lP3 := lP3_w7
  clear hLP3_w6 lP3_w6 hLP3_w5 lP3_w5 hLP3_w4 lP3_w4
  replace yP3 := hLP3.lt
  have hop0 := hop0_w7
  have hop2 := hop2_w7
  have hop3 := hop3_w7
  have how := how_w7
  replace hB := below_th hB hrw7
  clear tok5
  have cpw := how.cap
  have lnw : nw ≤ 1000000 := by have := how.len; omega
  go_wp2_with fail
  refine (toRack_u (h0_0.below hB) (by omega)).mono ?_
  rintro e w8 ⟨a_0x, c_0x, vs_x, rfl, hox0, hbw8⟩
  have zw8 : w7.heap.size ≤ w8.heap.size := hbw8.size
  replace hLP0 := hLP0.below hbw8 hLP0.lt
  replace lP0 := hLP0.cells1
  replace yP0 := hLP0.lt
  replace hLP3 := hLP3.below hbw8 hLP3.lt
  replace lP3 := hLP3.cells2
  replace yP3 := hLP3.lt
  replace how := how.below hbw8
  replace hB := below_th hB hbw8
  have lox0 : ∀ g, TblS a_0x n_0 vs_x g → w7.heap.size ≤ g := hox0.uLo
  have hix0 : ∀ g, TblS a_0x n_0 vs_x g → g < w8.heap.size := hox0.uHi
  go_wp2_with fail
  refine (toTbl_u ((h2_0.below hB).alloc _) (by omega)).mono ?_
  rintro e w9 ⟨a_2x, c_2x, vs_x, rfl, hox2, hbw9⟩
  have zw9 : w8.heap.size + 1 ≤ w9.heap.size := by have := hbw9.size; simpa using this
  replace hLP0 := (hLP0.alloc _).below hbw9 (hLP0.alloc _).lt
  replace lP0 := hLP0.cells1
  replace yP0 := hLP0.lt
  replace hLP3 := (hLP3.alloc _).below hbw9 (hLP3.alloc _).lt
  replace lP3 := hLP3.cells2
  replace yP3 := hLP3.lt
  have hLX0 : Loc _ (w8.heap.size) _ _ := (Loc.new _ (by simp) _ _).below hbw9 (by first | omega | (simp; done) | (simp; omega))
  have lX0 := hLX0.cells1
  have yX0 := hLX0.lt
  replace how := (how.alloc _).below hbw9
  replace hox0 := (hox0.alloc _).below hbw9
  replace hB := below_th (below_al hB _) hbw9
  have lox2 : ∀ g, TblS a_2x n_2 vs_x g → w8.heap.size + 1 ≤ g := fun g hg => by have := hox2.uLo g hg; simpa using this
  have hix2 : ∀ g, TblS a_2x n_2 vs_x g → g < w9.heap.size := hox2.uHi
  go_wp2_with fail
  refine (toBraid_u (h3_1.below hB) (by omega)).mono ?_
  rintro e w10 ⟨a_3x, c_3x, rfl, hox3, hbw10⟩
  have zw10 : w9.heap.size ≤ w10.heap.size := hbw10.size
  replace hLP0 := hLP0.below hbw10 hLP0.lt
  replace lP0 := hLP0.cells1
  replace yP0 := hLP0.lt
  replace hLP3 := hLP3.below hbw10 hLP3.lt
  replace lP3 := hLP3.cells2
  replace yP3 := hLP3.lt
  replace hLX0 := hLX0.below hbw10 hLX0.lt
  replace lX0 := hLX0.cells1
  replace yX0 := hLX0.lt
  replace how := how.below hbw10
  replace hox0 := hox0.below hbw10
  replace hox2 := hox2.below hbw10
  replace hB := below_th hB hbw10
  have lox3 : ∀ g, RowS a_3x g → w9.heap.size ≤ g := hox3.uLo
  have hix3 : ∀ g, RowS a_3x g → g < w10.heap.size := hox3.uHi
  go_wp2_with fail
  refine (HI.out _ _ _ _ _ _ _ ((hox0.alloc _).tbl) ((hox2.alloc _).tbl) ((hox3.alloc _).row) hox3.cap).mono ?_
  rintro e w11 ⟨ag, ng, cg, rfl, hog, hbw11⟩
  have zw11 : w10.heap.size + 1 ≤ w11.heap.size := by have := hbw11.size; simpa using this
  replace hLP0 := (hLP0.alloc _).below hbw11 (hLP0.alloc _).lt
  replace lP0 := hLP0.cells1
  replace yP0 := hLP0.lt
  replace hLP3 := (hLP3.alloc _).below hbw11 (hLP3.alloc _).lt
  replace lP3 := hLP3.cells2
  replace yP3 := hLP3.lt
  replace hLX0 := (hLX0.alloc _).below hbw11 (hLX0.alloc _).lt
  replace lX0 := hLX0.cells1
  replace yX0 := hLX0.lt
  have hLX3 : Loc _ (w10.heap.size) _ _ := (Loc.new _ (by simp) _ _).below hbw11 (by first | omega | (simp; done) | (simp; omega))
  have lX3 := hLX3.cells2
  have yX3 := hLX3.lt
  replace how := (how.alloc _).below hbw11
  replace hox0 := (hox0.alloc _).below hbw11
  replace hox2 := (hox2.alloc _).below hbw11
  replace hox3 := (hox3.alloc _).below hbw11
  replace hB := below_th (below_al hB _) hbw11
  have log : ∀ g, RowS ag g → w10.heap.size + 1 ≤ g := fun g hg => by have := hog.uLo g hg; simpa using this
  have hig : ∀ g, RowS ag g → g < w11.heap.size := hog.uHi
  have cpg := hog.cap
  have lng : ng ≤ 1000000 := by have := hog.len; omega
  go_wp2_with fail
  refine (eqRow_u (hog.row) (how.row) (by omega)).mono ?_
  rintro e w12 ⟨rfl, hbw12⟩
  have zw12 : w11.heap.size ≤ w12.heap.size := hbw12.size
  replace hLP0 := hLP0.below hbw12 hLP0.lt
  replace lP0 := hLP0.cells1
  replace yP0 := hLP0.lt
  replace hLP3 := hLP3.below hbw12 hLP3.lt
  replace lP3 := hLP3.cells2
  replace yP3 := hLP3.lt
  replace hLX0 := hLX0.below hbw12 hLX0.lt
  replace lX0 := hLX0.cells1
  replace yX0 := hLX0.lt
  replace hLX3 := hLX3.below hbw12 hLX3.lt
  replace lX3 := hLX3.cells2
  replace yX3 := hLX3.lt
  replace how := how.below hbw12
  replace hox0 := hox0.below hbw12
  replace hox2 := hox2.below hbw12
  replace hox3 := hox3.below hbw12
  replace hog := hog.below hbw12
  replace hB := below_th hB hbw12
  go_wp2_with fail
  have tok1 : True := trivial
  go_region_held3 (fun w' => (w'.cell? ⟨w.heap.size, 0, none⟩ = some (.slice a_0 n_0 c_0)) ∧ (w'.cell? ⟨w8.heap.size, 0, none⟩ = some (.slice a_0x n_0 c_0x)))
    (first | exact ⟨lP0_w14.1, lX0_w14.1⟩ | exact ⟨lP0_w13.1, lX0_w13.1⟩ | exact ⟨lP0.1, lX0.1⟩)
    (first
      | (go_at_call 8; have _t := tok1; clear _t tok1; have tok2 : True := trivial; refine (toRack_u ((h0_0.below hB).drewN 1) (by omega)).mono ?_; rintro e w13 ⟨a_0y, c_0y, vs_y, rfl, hoy0_w13, hbw13⟩; have zw13 : w12.heap.size ≤ w13.heap.size := hbw13.size; have hrw13 : Below w12.heap.size w12 w13 := (Below.drew (Below.refl _ _)).trans hbw13; have hLP0_w13 := hLP0.below hrw13 hLP0.lt; have lP0_w13 := hLP0_w13.cells1; have hLX0_w13 := hLX0.below hrw13 hLX0.lt; have lX0_w13 := hLX0_w13.cells1; have loy0 : ∀ g, TblS a_0y n_0 vs_y g → w12.heap.size ≤ g := hoy0_w13.uLo; have hiy0 : ∀ g, TblS a_0y n_0 vs_y g → g < w13.heap.size := hoy0_w13.uHi)
      | (go_at_call 13; have _t := tok2; clear _t tok2; have tok3 : True := trivial; refine (eqRack_u (hox0.below hrw13).tbl hoy0_w13.tbl (by omega)).mono ?_; rintro e w14 ⟨rfl, hbw14⟩; have zw14 : w13.heap.size ≤ w14.heap.size := hbw14.size; have hrw14 : Below w12.heap.size w12 w14 := below_th hrw13 hbw14; have hLP0_w14 := hLP0.below hrw14 hLP0.lt; have lP0_w14 := hLP0_w14.cells1; have hLX0_w14 := hLX0.below hrw14 hLX0.lt; have lX0_w14 := hLX0_w14.cells1; have hoy0_w14 := hoy0_w13.below hbw14))
  replace hLP0 := hLP0_w14
  replace lP0 := lP0_w14
  clear hLP0_w13 lP0_w13
  replace yP0 := hLP0.lt
  replace hLP3 := hLP3.below hrw14 hLP3.lt
  replace lP3 := hLP3.cells2
  replace yP3 := hLP3.lt
  replace hLX0 := hLX0_w14
  replace lX0 := lX0_w14
  clear hLX0_w13 lX0_w13
  replace yX0 := hLX0.lt
  replace hLX3 := hLX3.below hrw14 hLX3.lt
  replace lX3 := hLX3.cells2
  replace yX3 := hLX3.lt
  replace how := how.below hrw14
  replace hox0 := hox0.below hrw14
  replace hox2 := hox2.below hrw14
  replace hox3 := hox3.below hrw14
  replace hog := hog.below hrw14
  have hoy0 := hoy0_w14
  replace hB := below_th hB hrw14
  clear tok3
  go_wp2_with fail
  refine (toTbl_u (h2_0.below hB) (by omega)).mono ?_
  rintro e w15 ⟨a_2y, c_2y, vs_y, rfl, hoy2, hbw15⟩
  have zw15 : w14.heap.size ≤ w15.heap.size := hbw15.size
  replace hLP0 := hLP0.below hbw15 hLP0.lt
  replace lP0 := hLP0.cells1
  replace yP0 := hLP0.lt
  replace hLP3 := hLP3.below hbw15 hLP3.lt
  replace lP3 := hLP3.cells2
  replace yP3 := hLP3.lt
  replace hLX0 := hLX0.below hbw15 hLX0.lt
  replace lX0 := hLX0.cells1
  replace yX0 := hLX0.lt
  replace hLX3 := hLX3.below hbw15 hLX3.lt
  replace lX3 := hLX3.cells2
  replace yX3 := hLX3.lt
  replace how := how.below hbw15
  replace hox0 := hox0.below hbw15
  replace hox2 := hox2.below hbw15
  replace hox3 := hox3.below hbw15
  replace hog := hog.below hbw15
  replace hB := below_th hB hbw15
  have loy2 : ∀ g, TblS a_2y n_2 vs_y g → w14.heap.size ≤ g := hoy2.uLo
  have hiy2 : ∀ g, TblS a_2y n_2 vs_y g → g < w15.heap.size := hoy2.uHi
  go_wp2_with fail
  refine (eqTbl_u (hox2.tbl) (hoy2.tbl) (by omega)).mono ?_
  rintro e w16 ⟨rfl, hbw16⟩
  have zw16 : w15.heap.size ≤ w16.heap.size := hbw16.size
  replace hLP0 := hLP0.below hbw16 hLP0.lt
  replace lP0 := hLP0.cells1
  replace yP0 := hLP0.lt
  replace hLP3 := hLP3.below hbw16 hLP3.lt
  replace lP3 := hLP3.cells2
  replace yP3 := hLP3.lt
  replace hLX0 := hLX0.below hbw16 hLX0.lt
  replace lX0 := hLX0.cells1
  replace yX0 := hLX0.lt
  replace hLX3 := hLX3.below hbw16 hLX3.lt
  replace lX3 := hLX3.cells2
  replace yX3 := hLX3.lt
  replace how := how.below hbw16
  replace hox0 := hox0.below hbw16
  replace hox2 := hox2.below hbw16
  replace hox3 := hox3.below hbw16
  replace hog := hog.below hbw16
  replace hoy2 := hoy2.below hbw16
  replace hB := below_th hB hbw16
  go_wp2_with fail
  have tok1 : True := trivial
  go_region_held3 (fun w' => (w'.cell? ⟨w.heap.size + 1, 0, none⟩ = some (.int .i64 s_3) ∧ w'.cell? ⟨w.heap.size + 1, 1, none⟩ = some (.slice a_3 n_3 c_3)) ∧ (w'.cell? ⟨w10.heap.size, 0, none⟩ = some (.int .i64 s_3) ∧ w'.cell? ⟨w10.heap.size, 1, none⟩ = some (.slice a_3x n_3 c_3x)))
    (first | exact ⟨⟨lP3_w18.1, lP3_w18.2.1⟩, ⟨lX3_w18.1, lX3_w18.2.1⟩⟩ | exact ⟨⟨lP3_w17.1, lP3_w17.2.1⟩, ⟨lX3_w17.1, lX3_w17.2.1⟩⟩ | exact ⟨⟨lP3.1, lP3.2.1⟩, ⟨lX3.1, lX3.2.1⟩⟩)
    (first
      | (go_at_call 10; have _t := tok1; clear _t tok1; have tok2 : True := trivial; refine (toBraid_u ((h3_1.below hB).drewN 1) (by omega)).mono ?_; rintro e w17 ⟨a_3y, c_3y, rfl, hoy3_w17, hbw17⟩; have zw17 : w16.heap.size ≤ w17.heap.size := hbw17.size; have hrw17 : Below w16.heap.size w16 w17 := (Below.drew (Below.refl _ _)).trans hbw17; have hLP3_w17 := hLP3.below hrw17 hLP3.lt; have lP3_w17 := hLP3_w17.cells2; have hLX3_w17 := hLX3.below hrw17 hLX3.lt; have lX3_w17 := hLX3_w17.cells2; have cpy3 := hoy3_w17.cap; have loy3 : ∀ g, RowS a_3y g → w16.heap.size ≤ g := hoy3_w17.uLo; have hiy3 : ∀ g, RowS a_3y g → g < w17.heap.size := hoy3_w17.uHi)
      | (go_at_call 15; have _t := tok2; clear _t tok2; have tok3 : True := trivial; refine (eqBraid_u (hox3.below hrw17).row hoy3_w17.row (by omega)).mono ?_; rintro e w18 ⟨rfl, hbw18⟩; have zw18 : w17.heap.size ≤ w18.heap.size := hbw18.size; have hrw18 : Below w16.heap.size w16 w18 := below_th hrw17 hbw18; have hLP3_w18 := hLP3.below hrw18 hLP3.lt; have lP3_w18 := hLP3_w18.cells2; have hLX3_w18 := hLX3.below hrw18 hLX3.lt; have lX3_w18 := hLX3_w18.cells2; have hoy3_w18 := hoy3_w17.below hbw18))
  replace hLP0 := hLP0.below hrw18 hLP0.lt
  replace lP0 := hLP0.cells1
  replace yP0 := hLP0.lt
  replace hLP3 := hLP3_w18
  replace lP3 := lP3_w18
  clear hLP3_w17 lP3_w17
  replace yP3 := hLP3.lt
  replace hLX0 := hLX0.below hrw18 hLX0.lt
  replace lX0 := hLX0.cells1
  replace yX0 := hLX0.lt
  replace hLX3 := hLX3_w18
  replace lX3 := lX3_w18
  clear hLX3_w17 lX3_w17
  replace yX3 := hLX3.lt
  replace how := how.below hrw18
  replace hox0 := hox0.below hrw18
  replace hox2 := hox2.below hrw18
  replace hox3 := hox3.below hrw18
  replace hog := hog.below hrw18
  have hoy3 := hoy3_w18
  replace hB := below_th hB hrw18
  clear tok3
  have hk : decide ((1 : Int) + ((tot xss_0 : Nat) : Int) + ((tot xss_2 : Nat) : Int) + (n_3 : Int) < 0) = false := decide_eq_false (by omega)
  go_wp2_with fail
  refine (markRack_u hox0 (by omega) (by omega)).mono ?_
  rintro e w19 ⟨rfl, hxx0, hmw19⟩
  have zw19 : w18.heap.size ≤ w19.heap.size := hmw19.size
  replace hLP0 := hLP0.marked hmw19 (fun h2 => by have e1 := lox0 _ h2; have e2 := hix0 _ h2; omega)
  replace lP0 := hLP0.cells1
  replace yP0 := hLP0.lt
  replace hLP3 := hLP3.marked hmw19 (fun h2 => by have e1 := lox0 _ h2; have e2 := hix0 _ h2; omega)
  replace lP3 := hLP3.cells2
  replace yP3 := hLP3.lt
  replace hLX0 := hLX0.marked hmw19 (fun h2 => by have e1 := lox0 _ h2; have e2 := hix0 _ h2; omega)
  replace lX0 := hLX0.cells1
  replace yX0 := hLX0.lt
  replace hLX3 := hLX3.marked hmw19 (fun h2 => by have e1 := lox0 _ h2; have e2 := hix0 _ h2; omega)
  replace lX3 := hLX3.cells2
  replace yX3 := hLX3.lt
  replace how := how.uKeep hmw19 (fun g h1 h2 => by have e1 := lox0 _ h2; have e2 := hix0 _ h2; have e3 := low _ h1; have e4 := hiw _ h1; omega)
  replace hox2 := hox2.uKeep hmw19 (fun g h1 h2 => by have e1 := lox0 _ h2; have e2 := hix0 _ h2; have e3 := lox2 _ h1; have e4 := hix2 _ h1; omega)
  replace hox3 := hox3.uKeep hmw19 (fun g h1 h2 => by have e1 := lox0 _ h2; have e2 := hix0 _ h2; have e3 := lox3 _ h1; have e4 := hix3 _ h1; omega)
  replace hog := hog.uKeep hmw19 (fun g h1 h2 => by have e1 := lox0 _ h2; have e2 := hix0 _ h2; have e3 := log _ h1; have e4 := hig _ h1; omega)
  replace hox0 := hxx0
  replace hB := Marked.below hB hmw19 hB.size (fun k h2 => by have e1 := lox0 _ h2; omega)
  go_wp2_with fail
  refine (markTbl_u hox2 (by omega) (by omega)).mono ?_
  rintro e w20 ⟨rfl, hxx2, hmw20⟩
  have zw20 : w19.heap.size ≤ w20.heap.size := hmw20.size
  replace hLP0 := hLP0.marked hmw20 (fun h2 => by have e1 := lox2 _ h2; have e2 := hix2 _ h2; omega)
  replace lP0 := hLP0.cells1
  replace yP0 := hLP0.lt
  replace hLP3 := hLP3.marked hmw20 (fun h2 => by have e1 := lox2 _ h2; have e2 := hix2 _ h2; omega)
  replace lP3 := hLP3.cells2
  replace yP3 := hLP3.lt
  replace hLX0 := hLX0.marked hmw20 (fun h2 => by have e1 := lox2 _ h2; have e2 := hix2 _ h2; omega)
  replace lX0 := hLX0.cells1
  replace yX0 := hLX0.lt
  replace hLX3 := hLX3.marked hmw20 (fun h2 => by have e1 := lox2 _ h2; have e2 := hix2 _ h2; omega)
  replace lX3 := hLX3.cells2
  replace yX3 := hLX3.lt
  replace how := how.uKeep hmw20 (fun g h1 h2 => by have e1 := lox2 _ h2; have e2 := hix2 _ h2; have e3 := low _ h1; have e4 := hiw _ h1; omega)
  replace hox0 := hox0.uKeep hmw20 (fun g h1 h2 => by have e1 := lox2 _ h2; have e2 := hix2 _ h2; have e3 := lox0 _ h1; have e4 := hix0 _ h1; omega)
  replace hox3 := hox3.uKeep hmw20 (fun g h1 h2 => by have e1 := lox2 _ h2; have e2 := hix2 _ h2; have e3 := lox3 _ h1; have e4 := hix3 _ h1; omega)
  replace hog := hog.uKeep hmw20 (fun g h1 h2 => by have e1 := lox2 _ h2; have e2 := hix2 _ h2; have e3 := log _ h1; have e4 := hig _ h1; omega)
  replace hox2 := hxx2
  replace hB := Marked.below hB hmw20 hB.size (fun k h2 => by have e1 := lox2 _ h2; omega)
  go_wp2_with fail
  refine (markBraid_u hox3 (by omega) (by omega)).mono ?_
  rintro e w21 ⟨rfl, hxx3, hmw21⟩
  have zw21 : w20.heap.size ≤ w21.heap.size := hmw21.size
  replace hLP0 := hLP0.marked hmw21 (fun h2 => by have e1 := lox3 _ h2; have e2 := hix3 _ h2; omega)
  replace lP0 := hLP0.cells1
  replace yP0 := hLP0.lt
  replace hLP3 := hLP3.marked hmw21 (fun h2 => by have e1 := lox3 _ h2; have e2 := hix3 _ h2; omega)
  replace lP3 := hLP3.cells2
  replace yP3 := hLP3.lt
  replace hLX0 := hLX0.marked hmw21 (fun h2 => by have e1 := lox3 _ h2; have e2 := hix3 _ h2; omega)
  replace lX0 := hLX0.cells1
  replace yX0 := hLX0.lt
  replace hLX3 := hLX3.marked hmw21 (fun h2 => by have e1 := lox3 _ h2; have e2 := hix3 _ h2; omega)
  replace lX3 := hLX3.cells2
  replace yX3 := hLX3.lt
  replace how := how.uKeep hmw21 (fun g h1 h2 => by have e1 := lox3 _ h2; have e2 := hix3 _ h2; have e3 := low _ h1; have e4 := hiw _ h1; omega)
  replace hox0 := hox0.uKeep hmw21 (fun g h1 h2 => by have e1 := lox3 _ h2; have e2 := hix3 _ h2; have e3 := lox0 _ h1; have e4 := hix0 _ h1; omega)
  replace hox2 := hox2.uKeep hmw21 (fun g h1 h2 => by have e1 := lox3 _ h2; have e2 := hix3 _ h2; have e3 := lox2 _ h1; have e4 := hix2 _ h1; omega)
  replace hog := hog.uKeep hmw21 (fun g h1 h2 => by have e1 := lox3 _ h2; have e2 := hix3 _ h2; have e3 := log _ h1; have e4 := hig _ h1; omega)
  replace hox3 := hxx3
  replace hB := Marked.below hB hmw21 hB.size (fun k h2 => by have e1 := lox3 _ h2; omega)
  go_wp2_with fail
  refine (eqRow_u (hog.row) (how.row) (by omega)).mono ?_
  rintro e w22 ⟨rfl, hbw22⟩
  have zw22 : w21.heap.size ≤ w22.heap.size := hbw22.size
  replace hLP0 := hLP0.below hbw22 hLP0.lt
  replace lP0 := hLP0.cells1
  replace yP0 := hLP0.lt
  replace hLP3 := hLP3.below hbw22 hLP3.lt
  replace lP3 := hLP3.cells2
  replace yP3 := hLP3.lt
  replace how := how.below hbw22
  replace hog := hog.below hbw22
  replace hB := below_th hB hbw22
  have hk1 : decide ((1 : Int) + (ng : Int) < 0) = false := decide_eq_false (by omega)
  have hne1 : ((1 : Int) + (ng : Int) != (1 : Int) + (ng : Int)) = false := by simp
  go_wp2_with fail
  refine (markRow_u hog (by omega) (by omega)).mono ?_
  rintro e w23 ⟨rfl, hxg, hmw23⟩
  have zw23 : w22.heap.size ≤ w23.heap.size := hmw23.size
  replace hLP0 := hLP0.marked hmw23 (fun h2 => by have e1 := log _ h2; have e2 := hig _ h2; omega)
  replace lP0 := hLP0.cells1
  replace yP0 := hLP0.lt
  replace hLP3 := hLP3.marked hmw23 (fun h2 => by have e1 := log _ h2; have e2 := hig _ h2; omega)
  replace lP3 := hLP3.cells2
  replace yP3 := hLP3.lt
  replace how := how.uKeep hmw23 (fun g h1 h2 => by have e1 := log _ h2; have e2 := hig _ h2; have e3 := low _ h1; have e4 := hiw _ h1; omega)
  replace hog := hxg
  replace hB := Marked.below hB hmw23 hB.size (fun k h2 => by have e1 := log _ h2; omega)
  go_wp2_with fail
  refine (heldRow_u (hog.row) (by omega) (by omega)).mono ?_
  rintro e w24 ⟨rfl, hbw24⟩
  have zw24 : w23.heap.size ≤ w24.heap.size := hbw24.size
  replace hLP0 := hLP0.below hbw24 hLP0.lt
  replace lP0 := hLP0.cells1
  replace yP0 := hLP0.lt
  replace hLP3 := hLP3.below hbw24 hLP3.lt
  replace lP3 := hLP3.cells2
  replace yP3 := hLP3.lt
  replace how := how.below hbw24
  replace hog := hog.below hbw24
  replace hB := below_th hB hbw24
  go_wp2_with fail
  have tok1 : True := trivial
  go_region_held3 (fun w' => (w'.cell? ⟨w.heap.size, 0, none⟩ = some (.slice a_0 n_0 c_0)) ∧ (w'.cell? ⟨w.heap.size + 1, 0, none⟩ = some (.int .i64 s_3) ∧ w'.cell? ⟨w.heap.size + 1, 1, none⟩ = some (.slice a_3 n_3 c_3)))
    (first | exact ⟨lP0_w28.1, ⟨lP3_w28.1, lP3_w28.2.1⟩⟩ | exact ⟨lP0_w27.1, ⟨lP3_w27.1, lP3_w27.2.1⟩⟩ | exact ⟨lP0_w26.1, ⟨lP3_w26.1, lP3_w26.2.1⟩⟩ | exact ⟨lP0_w25.1, ⟨lP3_w25.1, lP3_w25.2.1⟩⟩ | exact ⟨lP0.1, ⟨lP3.1, lP3.2.1⟩⟩)
    (first
      | (go_at_call 8; have _t := tok1; clear _t tok1; have tok2 : True := trivial; refine (toRack_u ((h0_0.below hB).drewN 1) (by omega)).mono ?_; rintro e w25 ⟨a_0z, c_0z, vs_z, rfl, hoz0_w25, hbw25⟩; have zw25 : w24.heap.size ≤ w25.heap.size := hbw25.size; have hrw25 : Below w24.heap.size w24 w25 := (Below.drew (Below.refl _ _)).trans hbw25; have hLP0_w25 := hLP0.below hrw25 hLP0.lt; have lP0_w25 := hLP0_w25.cells1; have hLP3_w25 := hLP3.below hrw25 hLP3.lt; have lP3_w25 := hLP3_w25.cells2; have loz0 : ∀ g, TblS a_0z n_0 vs_z g → w24.heap.size ≤ g := hoz0_w25.uLo; have hiz0 : ∀ g, TblS a_0z n_0 vs_z g → g < w25.heap.size := hoz0_w25.uHi)
      | (go_at_call 9; have _t := tok2; clear _t tok2; have tok3 : True := trivial; refine (toTbl_u (h2_0.below (below_th hB hrw25)) (by omega)).mono ?_; rintro e w26 ⟨a_2z, c_2z, vs_z, rfl, hoz2_w26, hbw26⟩; have zw26 : w25.heap.size ≤ w26.heap.size := hbw26.size; have hrw26 : Below w24.heap.size w24 w26 := below_th hrw25 hbw26; have hLP0_w26 := hLP0.below hrw26 hLP0.lt; have lP0_w26 := hLP0_w26.cells1; have hLP3_w26 := hLP3.below hrw26 hLP3.lt; have lP3_w26 := hLP3_w26.cells2; have hoz0_w26 := hoz0_w25.below hbw26; have loz2 : ∀ g, TblS a_2z n_2 vs_z g → w25.heap.size ≤ g := hoz2_w26.uLo; have hiz2 : ∀ g, TblS a_2z n_2 vs_z g → g < w26.heap.size := hoz2_w26.uHi)
      | (go_at_call 10; have _t := tok3; clear _t tok3; have tok4 : True := trivial; refine (toBraid_u (h3_1.below (below_th hB hrw26)) (by omega)).mono ?_; rintro e w27 ⟨a_3z, c_3z, rfl, hoz3_w27, hbw27⟩; have zw27 : w26.heap.size ≤ w27.heap.size := hbw27.size; have hrw27 : Below w24.heap.size w24 w27 := below_th hrw26 hbw27; have hLP0_w27 := hLP0.below hrw27 hLP0.lt; have lP0_w27 := hLP0_w27.cells1; have hLP3_w27 := hLP3.below hrw27 hLP3.lt; have lP3_w27 := hLP3_w27.cells2; have hoz0_w27 := hoz0_w26.below hbw27; have hoz2_w27 := hoz2_w26.below hbw27; have cpz3 := hoz3_w27.cap; have loz3 : ∀ g, RowS a_3z g → w26.heap.size ≤ g := hoz3_w27.uLo; have hiz3 : ∀ g, RowS a_3z g → g < w27.heap.size := hoz3_w27.uHi)
      | (go_at_call 11; have _t := tok4; clear _t tok4; have tok5 : True := trivial; refine (HI.out _ _ _ _ _ _ _ hoz0_w27.tbl hoz2_w27.tbl hoz3_w27.row cpz3).mono ?_; rintro e w28 ⟨ah, nh, ch, rfl, hoh_w28, hbw28⟩; have zw28 : w27.heap.size ≤ w28.heap.size := hbw28.size; have hrw28 : Below w24.heap.size w24 w28 := below_th hrw27 hbw28; have hLP0_w28 := hLP0.below hrw28 hLP0.lt; have lP0_w28 := hLP0_w28.cells1; have hLP3_w28 := hLP3.below hrw28 hLP3.lt; have lP3_w28 := hLP3_w28.cells2; have hoz0_w28 := hoz0_w27.below hbw28; have hoz2_w28 := hoz2_w27.below hbw28; have hoz3_w28 := hoz3_w27.below hbw28; have loh : ∀ g, RowS ah g → w27.heap.size ≤ g := hoh_w28.uLo; have hih : ∀ g, RowS ah g → g < w28.heap.size := hoh_w28.uHi))
  replace hLP0 := hLP0_w28
  replace lP0 := lP0_w28
  clear hLP0_w27 lP0_w27 hLP0_w26 lP0_w26 hLP0_w25 lP0_w25
  replace yP0 := hLP0.lt
  replace hLP3 := hLP3_w28
  replace lP3 := lP3_w28
  clear hLP3_w27 lP3_w27 hLP3_w26 lP3_w26 hLP3_w25 lP3_w25
  replace yP3 := hLP3.lt
  replace how := how.below hrw28
  replace hog := hog.below hrw28
  have hoz0 := hoz0_w28
  have hoz2 := hoz2_w28
  have hoz3 := hoz3_w28
  have hoh := hoh_w28
  replace hB := below_th hB hrw28
  clear tok5
  have cph := hoh.cap
  have lnh : nh ≤ 1000000 := by have := hoh.len; omega
  go_wp2_with fail
  refine (eqRow_u (hoh.row) (how.row) (by omega)).mono ?_
  rintro e w29 ⟨rfl, hbw29⟩
  have zw29 : w28.heap.size ≤ w29.heap.size := hbw29.size
  replace hLP0 := hLP0.below hbw29 hLP0.lt
  replace lP0 := hLP0.cells1
  replace yP0 := hLP0.lt
  replace hLP3 := hLP3.below hbw29 hLP3.lt
  replace lP3 := hLP3.cells2
  replace yP3 := hLP3.lt
  replace how := how.below hbw29
  replace hog := hog.below hbw29
  replace hoh := hoh.below hbw29
  replace hB := below_th hB hbw29
  go_wp2_with fail
  refine (heldRow_u (hog.row) (by omega) (by omega)).mono ?_
  rintro e w30 ⟨rfl, hbw30⟩
  have zw30 : w29.heap.size ≤ w30.heap.size := hbw30.size
  replace hLP0 := hLP0.below hbw30 hLP0.lt
  replace lP0 := hLP0.cells1
  replace yP0 := hLP0.lt
  replace hLP3 := hLP3.below hbw30 hLP3.lt
  replace lP3 := hLP3.cells2
  replace yP3 := hLP3.lt
  replace how := how.below hbw30
  replace hog := hog.below hbw30
  replace hoh := hoh.below hbw30
  replace hB := below_th hB hbw30
  go_wp2_with fail
  go_ret
  exact ⟨rfl, hB⟩

theorem law_Qs (w : World) (a_0 : Option Addr) (n_0 : Nat) (c_0 : Nat) (xss_0 : List (List Int)) (h0_0 : Tbl w a_0 n_0 xss_0) (h0_1 : n_0 ≤ 9223372036854775807) (x_1 : Int) (h1_0 : I64 x_1) (a_2 : Option Addr) (n_2 : Nat) (c_2 : Nat) (xss_2 : List (List Int)) (h2_0 : Tbl w a_2 n_2 xss_2) (h2_1 : n_2 ≤ 9223372036854775807) (s_3 : Int) (a_3 : Option Addr) (n_3 : Nat) (c_3 : Nat) (xs_3 : List Int) (h3_0 : I64 s_3) (h3_1 : Row w a_3 n_3 xs_3) (h3_2 : n_3 ≤ 9223372036854775807) (h3_3 : I64s xs_3) : Calls Tryz.prog 3 #[rAgg a_0 n_0 c_0, .int .i64 x_1, .slice a_2 n_2 c_2, bAgg s_3 a_3 n_3 c_3] w fun e w' => e = .returned (.bool true) ∧ Below w.heap.size w w' := by
  refine (Classical.em ((n_0 + tot xss_0) ≤ 1048576)).elim (fun c0 => ?_) (fun c0 => law_Qs_big0 w a_0 n_0 c_0 xss_0 x_1 a_2 n_2 c_2 xss_2 s_3 a_3 n_3 c_3 xs_3 h0_0 h0_1 h1_0 h2_0 h2_1 h3_0 h3_1 h3_2 h3_3  (by omega))
  refine (Classical.em ((n_0 + tot xss_0) + (n_2 + tot xss_2) ≤ 1048576)).elim (fun c1 => ?_) (fun c1 => law_Qs_big1 w a_0 n_0 c_0 xss_0 x_1 a_2 n_2 c_2 xss_2 s_3 a_3 n_3 c_3 xs_3 h0_0 h0_1 h1_0 h2_0 h2_1 h3_0 h3_1 h3_2 h3_3  c0 (by omega))
  refine (Classical.em ((n_0 + tot xss_0) + (n_2 + tot xss_2) + (n_3) ≤ 1048576)).elim (fun c2 => ?_) (fun c2 => law_Qs_big2 w a_0 n_0 c_0 xss_0 x_1 a_2 n_2 c_2 xss_2 s_3 a_3 n_3 c_3 xs_3 h0_0 h0_1 h1_0 h2_0 h2_1 h3_0 h3_1 h3_2 h3_3  c1 (by omega))
  exact law_Qs_small w a_0 n_0 c_0 xss_0 x_1 a_2 n_2 c_2 xss_2 s_3 a_3 n_3 c_3 xs_3 h0_0 h0_1 h1_0 h2_0 h2_1 h3_0 h3_1 h3_2 h3_3  c2

end Go.Proofs.YtfmcaflefiapoaaGreat
