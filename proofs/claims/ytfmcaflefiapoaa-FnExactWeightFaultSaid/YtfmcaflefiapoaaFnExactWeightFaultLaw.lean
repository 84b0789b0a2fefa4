/-
  The walk of the law of WeightFault: it answers true.
  No condition.
-/
import Derived.Test.YtfmcaflefiapoaaWtfB
import Derived.Test.YtfmcaflefiapoaaU
import Derived.Test.YtfmcaflefiapoaaUS
import Derived.Test.YtfmcaflefiapoaaUT
import Derived.Test.YtfmcaflefiapoaaOpen
import Derived.Deep.RegionHeld3
namespace Go.Proofs.Ytfmcaflefiapoaa
set_option maxRecDepth 100000
set_option linter.unusedVariables false
set_option linter.unusedSimpArgs false
open Go.RowKit

set_option maxHeartbeats 2000000 in
theorem law_Wtf_big0 (w : World) (a_0 : Option Addr) (n_0 : Nat) (c_0 : Nat) (xss_0 : List (List Int)) (a'_0 : Option Addr) (n'_0 : Nat) (c'_0 : Nat) (yss_0 : List (List Int)) (x_1 : Int) (a_2 : Option Addr) (n_2 : Nat) (c_2 : Nat) (xss_2 : List (List Int)) (h0_0 : Sol w a_0 n_0 xss_0 a'_0 n'_0 yss_0) (h0_1 : n_0 ≤ 9223372036854775807 ∧ n'_0 ≤ 9223372036854775807) (h1_0 : I64 x_1) (h2_0 : Tbl w a_2 n_2 xss_2) (h2_1 : n_2 ≤ 9223372036854775807)  (hbig : 1048576 < (n_0 + tot xss_0 + n'_0 + tot yss_0)) : Calls Try.prog 5 #[sAgg a_0 n_0 c_0 a'_0 n'_0 c'_0, .int .i64 x_1, .slice a_2 n_2 c_2] w fun e w' => e = .returned (.bool true) ∧ Below w.heap.size w w' := by
  go_enter Try.func5, Try.ntmps5
  have hB : Below w.heap.size w w := Below.refl _ _
  go_wp2_with fail
  refine (szSol_no' ((h0_0.below hB).alloc _) (by omega) (by omega) (by omega) (by omega)).mono ?_
  rintro e w1 ⟨rfl, hbw1⟩
  have zw1 : w.heap.size + 1 ≤ w1.heap.size := by have := hbw1.size; simpa using this
  have hLP0 : Loc _ (w.heap.size) _ _ := (Loc.new _ (by simp) _ _).below hbw1 (by first | omega | (simp; done) | (simp; omega))
  have lP0 := hLP0.cells2
  have yP0 := hLP0.lt
  replace hB := below_th (below_al hB _) hbw1
  go_wp2
  go_ret
  exact ⟨rfl, hB⟩

set_option maxHeartbeats 2000000 in
theorem law_Wtf_big1 (w : World) (a_0 : Option Addr) (n_0 : Nat) (c_0 : Nat) (xss_0 : List (List Int)) (a'_0 : Option Addr) (n'_0 : Nat) (c'_0 : Nat) (yss_0 : List (List Int)) (x_1 : Int) (a_2 : Option Addr) (n_2 : Nat) (c_2 : Nat) (xss_2 : List (List Int)) (h0_0 : Sol w a_0 n_0 xss_0 a'_0 n'_0 yss_0) (h0_1 : n_0 ≤ 9223372036854775807 ∧ n'_0 ≤ 9223372036854775807) (h1_0 : I64 x_1) (h2_0 : Tbl w a_2 n_2 xss_2) (h2_1 : n_2 ≤ 9223372036854775807)  (hpre : (n_0 + tot xss_0 + n'_0 + tot yss_0) ≤ 1048576) (hbig : 1048576 < (n_0 + tot xss_0 + n'_0 + tot yss_0) + (n_2 + tot xss_2)) : Calls Try.prog 5 #[sAgg a_0 n_0 c_0 a'_0 n'_0 c'_0, .int .i64 x_1, .slice a_2 n_2 c_2] w fun e w' => e = .returned (.bool true) ∧ Below w.heap.size w w' := by
  go_enter Try.func5, Try.ntmps5
  have hB : Below w.heap.size w w := Below.refl _ _
  go_wp2_with fail
  refine (szSol_ok' ((h0_0.below hB).alloc _) (by omega) (by omega)).mono ?_
  rintro e w1 ⟨rfl, hbw1⟩
  have zw1 : w.heap.size + 1 ≤ w1.heap.size := by have := hbw1.size; simpa using this
  have hLP0 : Loc _ (w.heap.size) _ _ := (Loc.new _ (by simp) _ _).below hbw1 (by first | omega | (simp; done) | (simp; omega))
  have lP0 := hLP0.cells2
  have yP0 := hLP0.lt
  replace hB := below_th (below_al hB _) hbw1
  go_wp2_with fail
  refine (szTbl_no' (h2_0.below hB) (by omega) (by omega) (by omega) (by omega)).mono ?_
  rintro e w2 ⟨rfl, hbw2⟩
  have zw2 : w1.heap.size ≤ w2.heap.size := hbw2.size
  replace hLP0 := hLP0.below hbw2 hLP0.lt
  replace lP0 := hLP0.cells2
  replace yP0 := hLP0.lt
  replace hB := below_th hB hbw2
  go_wp2
  go_ret
  exact ⟨rfl, hB⟩

set_option maxHeartbeats 8000000 in
theorem law_Wtf_small (w : World) (a_0 : Option Addr) (n_0 : Nat) (c_0 : Nat) (xss_0 : List (List Int)) (a'_0 : Option Addr) (n'_0 : Nat) (c'_0 : Nat) (yss_0 : List (List Int)) (x_1 : Int) (a_2 : Option Addr) (n_2 : Nat) (c_2 : Nat) (xss_2 : List (List Int)) (h0_0 : Sol w a_0 n_0 xss_0 a'_0 n'_0 yss_0) (h0_1 : n_0 ≤ 9223372036854775807 ∧ n'_0 ≤ 9223372036854775807) (h1_0 : I64 x_1) (h2_0 : Tbl w a_2 n_2 xss_2) (h2_1 : n_2 ≤ 9223372036854775807) (hs0 : (n_0 + tot xss_0 + n'_0 + tot yss_0) + (n_2 + tot xss_2) ≤ 1048576) : Calls Try.prog 5 #[sAgg a_0 n_0 c_0 a'_0 n'_0 c'_0, .int .i64 x_1, .slice a_2 n_2 c_2] w fun e w' => e = .returned (.bool true) ∧ Below w.heap.size w w' := by
  obtain ⟨rd0, code, hlen, HS, HI⟩ : ∃ (rd0 : List Int) (code : Int), List.length rd0 ≤ 1000000 ∧ Hid (∀ (w' : World) (a_0q : Option Addr) (c_0q : Nat) (a'_0q : Option Addr) (c'_0q : Nat) (a_2q : Option Addr) (c_2q : Nat), Sol w' a_0q n_0 xss_0 a'_0q n'_0 yss_0 → Tbl w' a_2q n_2 xss_2 → Calls Try.prog 27 #[sAgg a_0q n_0 c_0q a'_0q n'_0 c'_0q, .int .i64 x_1, .slice a_2q n_2 c_2q] w' (RetR w' rd0 code)) ∧ Hid (∀ (w' : World) (a_0q : Option Addr) (c_0q : Nat) (a'_0q : Option Addr) (c'_0q : Nat) (a_2q : Option Addr) (c_2q : Nat), Sol w' a_0q n_0 xss_0 a'_0q n'_0 yss_0 → Tbl w' a_2q n_2 xss_2 → Calls Try.prog 28 #[sAgg a_0q n_0 c_0q a'_0q n'_0 c'_0q, .int .i64 x_1, .slice a_2q n_2 c_2q] w' (RetR w' rd0 code)) :=
    ⟨_, _, Wtf_len xss_0 yss_0 x_1 xss_2, Lib.hid fun w' a_0q c_0q a'_0q c'_0q a_2q c_2q r0 r2 => spec_Wtf_l a_0q n_0 c_0q xss_0 a'_0q n'_0 c'_0q yss_0 x_1 a_2q n_2 c_2q xss_2 w' r0 h0_1 h1_0 r2 h2_1, Lib.hid fun w' a_0q c_0q a'_0q c'_0q a_2q c_2q r0 r2 => impl_Wtf_l a_0q n_0 c_0q xss_0 a'_0q n'_0 c'_0q yss_0 x_1 a_2q n_2 c_2q xss_2 w' r0 h0_1 h1_0 r2 h2_1⟩
  have hne : (code != code) = false := by simp
  go_enter Try.func5, Try.ntmps5
  have hB : Below w.heap.size w w := Below.refl _ _
  go_wp2_with fail
  refine (szSol_ok' ((h0_0.below hB).alloc _) (by omega) (by omega)).mono ?_
  rintro e w1 ⟨rfl, hbw1⟩
  have zw1 : w.heap.size + 1 ≤ w1.heap.size := by have := hbw1.size; simpa using this
  have hLP0 : Loc _ (w.heap.size) _ _ := (Loc.new _ (by simp) _ _).below hbw1 (by first | omega | (simp; done) | (simp; omega))
  have lP0 := hLP0.cells2
  have yP0 := hLP0.lt
  replace hB := below_th (below_al hB _) hbw1
  go_wp2_with fail
  refine (szTbl_ok' (h2_0.below hB) (by omega) (by omega)).mono ?_
  rintro e w2 ⟨rfl, hbw2⟩
  have zw2 : w1.heap.size ≤ w2.heap.size := hbw2.size
  replace hLP0 := hLP0.below hbw2 hLP0.lt
  replace lP0 := hLP0.cells2
  replace yP0 := hLP0.lt
  replace hB := below_th hB hbw2
  go_wp2_with fail
  refine (toSol_u (h0_0.below hB) (by omega)).mono ?_
  rintro e w3 ⟨a_0p, c_0p, a'_0p, c'_0p, vs_p, vs'_p, rfl, hop0, hbw3⟩
  have zw3 : w2.heap.size ≤ w3.heap.size := hbw3.size
  replace hLP0 := hLP0.below hbw3 hLP0.lt
  replace lP0 := hLP0.cells2
  replace yP0 := hLP0.lt
  replace hB := below_th hB hbw3
  have lop0 : ∀ g, SolS a_0p n_0 vs_p a'_0p n'_0 vs'_p g → w2.heap.size ≤ g := hop0.uLo
  have hip0 : ∀ g, SolS a_0p n_0 vs_p a'_0p n'_0 vs'_p g → g < w3.heap.size := hop0.uHi
  go_wp2_with fail
  refine (toTbl_u (h2_0.below hB) (by omega)).mono ?_
  rintro e w4 ⟨a_2p, c_2p, vs_p, rfl, hop2, hbw4⟩
  have zw4 : w3.heap.size ≤ w4.heap.size := hbw4.size
  replace hLP0 := hLP0.below hbw4 hLP0.lt
  replace lP0 := hLP0.cells2
  replace yP0 := hLP0.lt
  replace hop0 := hop0.below hbw4
  replace hB := below_th hB hbw4
  have lop2 : ∀ g, TblS a_2p n_2 vs_p g → w3.heap.size ≤ g := hop2.uLo
  have hip2 : ∀ g, TblS a_2p n_2 vs_p g → g < w4.heap.size := hop2.uHi
  go_wp2_with fail
  refine (HS.out _ _ _ _ _ _ _ (hop0.sol) (hop2.tbl)).mono ?_
  rintro e w5 ⟨aw, nw, cw, rfl, how, hbw5⟩
  have zw5 : w4.heap.size ≤ w5.heap.size := hbw5.size
  replace hLP0 := hLP0.below hbw5 hLP0.lt
  replace lP0 := hLP0.cells2
  replace yP0 := hLP0.lt
  replace hop0 := hop0.below hbw5
  replace hop2 := hop2.below hbw5
  replace hB := below_th hB hbw5
  have low : ∀ g, RowS aw g → w4.heap.size ≤ g := how.uLo
  have hiw : ∀ g, RowS aw g → g < w5.heap.size := how.uHi
  have cpw := how.cap
  have lnw : nw ≤ 1000000 := by have := how.len; omega
  go_wp2_with fail
  refine (toSol_u (h0_0.below hB) (by omega)).mono ?_
  rintro e w6 ⟨a_0x, c_0x, a'_0x, c'_0x, vs_x, vs'_x, rfl, hox0, hbw6⟩
  have zw6 : w5.heap.size ≤ w6.heap.size := hbw6.size
  replace hLP0 := hLP0.below hbw6 hLP0.lt
  replace lP0 := hLP0.cells2
  replace yP0 := hLP0.lt
  replace how := how.below hbw6
  replace hB := below_th hB hbw6
  have lox0 : ∀ g, SolS a_0x n_0 vs_x a'_0x n'_0 vs'_x g → w5.heap.size ≤ g := hox0.uLo
  have hix0 : ∀ g, SolS a_0x n_0 vs_x a'_0x n'_0 vs'_x g → g < w6.heap.size := hox0.uHi
  go_wp2_with fail
  refine (toTbl_u ((h2_0.below hB).alloc _) (by omega)).mono ?_
  rintro e w7 ⟨a_2x, c_2x, vs_x, rfl, hox2, hbw7⟩
  have zw7 : w6.heap.size + 1 ≤ w7.heap.size := by have := hbw7.size; simpa using this
  replace hLP0 := (hLP0.alloc _).below hbw7 (hLP0.alloc _).lt
  replace lP0 := hLP0.cells2
  replace yP0 := hLP0.lt
  have hLX0 : Loc _ (w6.heap.size) _ _ := (Loc.new _ (by simp) _ _).below hbw7 (by first | omega | (simp; done) | (simp; omega))
  have lX0 := hLX0.cells2
  have yX0 := hLX0.lt
  replace how := (how.alloc _).below hbw7
  replace hox0 := (hox0.alloc _).below hbw7
  replace hB := below_th (below_al hB _) hbw7
  have lox2 : ∀ g, TblS a_2x n_2 vs_x g → w6.heap.size + 1 ≤ g := fun g hg => by have := hox2.uLo g hg; simpa using this
  have hix2 : ∀ g, TblS a_2x n_2 vs_x g → g < w7.heap.size := hox2.uHi
  go_wp2_with fail
  refine (HI.out _ _ _ _ _ _ _ (hox0.sol) (hox2.tbl)).mono ?_
  rintro e w8 ⟨ag, ng, cg, rfl, hog, hbw8⟩
  have zw8 : w7.heap.size ≤ w8.heap.size := hbw8.size
  replace hLP0 := hLP0.below hbw8 hLP0.lt
  replace lP0 := hLP0.cells2
  replace yP0 := hLP0.lt
  replace hLX0 := hLX0.below hbw8 hLX0.lt
  replace lX0 := hLX0.cells2
  replace yX0 := hLX0.lt
  replace how := how.below hbw8
  replace hox0 := hox0.below hbw8
  replace hox2 := hox2.below hbw8
  replace hB := below_th hB hbw8
  have log : ∀ g, RowS ag g → w7.heap.size ≤ g := hog.uLo
  have hig : ∀ g, RowS ag g → g < w8.heap.size := hog.uHi
  have cpg := hog.cap
  have lng : ng ≤ 1000000 := by have := hog.len; omega
  go_wp2_with fail
  refine (eqRow_u (hog.row) (how.row) (by omega)).mono ?_
  rintro e w9 ⟨rfl, hbw9⟩
  have zw9 : w8.heap.size ≤ w9.heap.size := hbw9.size
  replace hLP0 := hLP0.below hbw9 hLP0.lt
  replace lP0 := hLP0.cells2
  replace yP0 := hLP0.lt
  replace hLX0 := hLX0.below hbw9 hLX0.lt
  replace lX0 := hLX0.cells2
  replace yX0 := hLX0.lt
  replace how := how.below hbw9
  replace hox0 := hox0.below hbw9
  replace hox2 := hox2.below hbw9
  replace hog := hog.below hbw9
  replace hB := below_th hB hbw9
  go_wp2_with fail
  have tok1 : True := trivial
  go_region_held3 (fun w' => (w'.cell? ⟨w.heap.size, 0, none⟩ = some (.slice a_0 n_0 c_0) ∧ w'.cell? ⟨w.heap.size, 1, none⟩ = some (.slice a'_0 n'_0 c'_0)) ∧ (w'.cell? ⟨w6.heap.size, 0, none⟩ = some (.slice a_0x n_0 c_0x) ∧ w'.cell? ⟨w6.heap.size, 1, none⟩ = some (.slice a'_0x n'_0 c'_0x)))
    (first | exact ⟨⟨lP0_w11.1, lP0_w11.2.1⟩, ⟨lX0_w11.1, lX0_w11.2.1⟩⟩ | exact ⟨⟨lP0_w10.1, lP0_w10.2.1⟩, ⟨lX0_w10.1, lX0_w10.2.1⟩⟩ | exact ⟨⟨lP0.1, lP0.2.1⟩, ⟨lX0.1, lX0.2.1⟩⟩)
    (first
      | (go_at_call 16; have _t := tok1; clear _t tok1; have tok2 : True := trivial; refine (toSol_u ((h0_0.below hB).drewN 1) (by omega)).mono ?_; rintro e w10 ⟨a_0y, c_0y, a'_0y, c'_0y, vs_y, vs'_y, rfl, hoy0_w10, hbw10⟩; have zw10 : w9.heap.size ≤ w10.heap.size := hbw10.size; have hrw10 : Below w9.heap.size w9 w10 := (Below.drew (Below.refl _ _)).trans hbw10; have hLP0_w10 := hLP0.below hrw10 hLP0.lt; have lP0_w10 := hLP0_w10.cells2; have hLX0_w10 := hLX0.below hrw10 hLX0.lt; have lX0_w10 := hLX0_w10.cells2; have loy0 : ∀ g, SolS a_0y n_0 vs_y a'_0y n'_0 vs'_y g → w9.heap.size ≤ g := hoy0_w10.uLo; have hiy0 : ∀ g, SolS a_0y n_0 vs_y a'_0y n'_0 vs'_y g → g < w10.heap.size := hoy0_w10.uHi)
      | (go_at_call 21; have _t := tok2; clear _t tok2; have tok3 : True := trivial; refine (eqSol_u (hox0.below hrw10).sol hoy0_w10.sol (by omega)).mono ?_; rintro e w11 ⟨rfl, hbw11⟩; have zw11 : w10.heap.size ≤ w11.heap.size := hbw11.size; have hrw11 : Below w9.heap.size w9 w11 := below_th hrw10 hbw11; have hLP0_w11 := hLP0.below hrw11 hLP0.lt; have lP0_w11 := hLP0_w11.cells2; have hLX0_w11 := hLX0.below hrw11 hLX0.lt; have lX0_w11 := hLX0_w11.cells2; have hoy0_w11 := hoy0_w10.below hbw11))
  replace hLP0 := hLP0_w11
  replace lP0 := lP0_w11
  clear hLP0_w10 lP0_w10
  replace yP0 := hLP0.lt
  replace hLX0 := hLX0_w11
  replace lX0 := lX0_w11
  clear hLX0_w10 lX0_w10
  replace yX0 := hLX0.lt
  replace how := how.below hrw11
  replace hox0 := hox0.below hrw11
  replace hox2 := hox2.below hrw11
  replace hog := hog.below hrw11
  have hoy0 := hoy0_w11
  replace hB := below_th hB hrw11
  clear tok3
  go_wp2_with fail
  refine (toTbl_u (h2_0.below hB) (by omega)).mono ?_
  rintro e w12 ⟨a_2y, c_2y, vs_y, rfl, hoy2, hbw12⟩
  have zw12 : w11.heap.size ≤ w12.heap.size := hbw12.size
  replace hLP0 := hLP0.below hbw12 hLP0.lt
  replace lP0 := hLP0.cells2
  replace yP0 := hLP0.lt
  replace hLX0 := hLX0.below hbw12 hLX0.lt
  replace lX0 := hLX0.cells2
  replace yX0 := hLX0.lt
  replace how := how.below hbw12
  replace hox0 := hox0.below hbw12
  replace hox2 := hox2.below hbw12
  replace hog := hog.below hbw12
  replace hB := below_th hB hbw12
  have loy2 : ∀ g, TblS a_2y n_2 vs_y g → w11.heap.size ≤ g := hoy2.uLo
  have hiy2 : ∀ g, TblS a_2y n_2 vs_y g → g < w12.heap.size := hoy2.uHi
  go_wp2_with fail
  refine (eqTbl_u (hox2.tbl) (hoy2.tbl) (by omega)).mono ?_
  rintro e w13 ⟨rfl, hbw13⟩
  have zw13 : w12.heap.size ≤ w13.heap.size := hbw13.size
  replace hLP0 := hLP0.below hbw13 hLP0.lt
  replace lP0 := hLP0.cells2
  replace yP0 := hLP0.lt
  replace hLX0 := hLX0.below hbw13 hLX0.lt
  replace lX0 := hLX0.cells2
  replace yX0 := hLX0.lt
  replace how := how.below hbw13
  replace hox0 := hox0.below hbw13
  replace hox2 := hox2.below hbw13
  replace hog := hog.below hbw13
  replace hoy2 := hoy2.below hbw13
  replace hB := below_th hB hbw13
  have hk : decide ((1 : Int) + ((tot xss_0 : Nat) : Int) + ((tot yss_0 : Nat) : Int) + ((tot xss_2 : Nat) : Int) < 0) = false := decide_eq_false (by omega)
  go_wp2_with fail
  refine (markSol_u hox0 (by omega) (by omega)).mono ?_
  rintro e w14 ⟨rfl, hxx0, hmw14⟩
  have zw14 : w13.heap.size ≤ w14.heap.size := hmw14.size
  replace hLP0 := hLP0.marked hmw14 (fun h2 => by have e1 := lox0 _ h2; have e2 := hix0 _ h2; omega)
  replace lP0 := hLP0.cells2
  replace yP0 := hLP0.lt
  replace hLX0 := hLX0.marked hmw14 (fun h2 => by have e1 := lox0 _ h2; have e2 := hix0 _ h2; omega)
  replace lX0 := hLX0.cells2
  replace yX0 := hLX0.lt
  replace how := how.uKeep hmw14 (fun g h1 h2 => by have e1 := lox0 _ h2; have e2 := hix0 _ h2; have e3 := low _ h1; have e4 := hiw _ h1; omega)
  replace hox2 := hox2.uKeep hmw14 (fun g h1 h2 => by have e1 := lox0 _ h2; have e2 := hix0 _ h2; have e3 := lox2 _ h1; have e4 := hix2 _ h1; omega)
  replace hog := hog.uKeep hmw14 (fun g h1 h2 => by have e1 := lox0 _ h2; have e2 := hix0 _ h2; have e3 := log _ h1; have e4 := hig _ h1; omega)
  replace hox0 := hxx0
  replace hB := Marked.below hB hmw14 hB.size (fun k h2 => by have e1 := lox0 _ h2; omega)
  go_wp2_with fail
  refine (markTbl_u hox2 (by omega) (by omega)).mono ?_
  rintro e w15 ⟨rfl, hxx2, hmw15⟩
  have zw15 : w14.heap.size ≤ w15.heap.size := hmw15.size
  replace hLP0 := hLP0.marked hmw15 (fun h2 => by have e1 := lox2 _ h2; have e2 := hix2 _ h2; omega)
  replace lP0 := hLP0.cells2
  replace yP0 := hLP0.lt
  replace hLX0 := hLX0.marked hmw15 (fun h2 => by have e1 := lox2 _ h2; have e2 := hix2 _ h2; omega)
  replace lX0 := hLX0.cells2
  replace yX0 := hLX0.lt
  replace how := how.uKeep hmw15 (fun g h1 h2 => by have e1 := lox2 _ h2; have e2 := hix2 _ h2; have e3 := low _ h1; have e4 := hiw _ h1; omega)
  replace hox0 := hox0.uKeep hmw15 (fun g h1 h2 => by have e1 := lox2 _ h2; have e2 := hix2 _ h2; have e3 := lox0 _ h1; have e4 := hix0 _ h1; omega)
  replace hog := hog.uKeep hmw15 (fun g h1 h2 => by have e1 := lox2 _ h2; have e2 := hix2 _ h2; have e3 := log _ h1; have e4 := hig _ h1; omega)
  replace hox2 := hxx2
  replace hB := Marked.below hB hmw15 hB.size (fun k h2 => by have e1 := lox2 _ h2; omega)
  go_wp2_with fail
  refine (eqRow_u (hog.row) (how.row) (by omega)).mono ?_
  rintro e w16 ⟨rfl, hbw16⟩
  have zw16 : w15.heap.size ≤ w16.heap.size := hbw16.size
  replace hLP0 := hLP0.below hbw16 hLP0.lt
  replace lP0 := hLP0.cells2
  replace yP0 := hLP0.lt
  replace how := how.below hbw16
  replace hog := hog.below hbw16
  replace hB := below_th hB hbw16
  have hk1 : decide ((1 : Int) + (ng : Int) < 0) = false := decide_eq_false (by omega)
  have hne1 : ((1 : Int) + (ng : Int) != (1 : Int) + (ng : Int)) = false := by simp
  go_wp2_with fail
  refine (markRow_u hog (by omega) (by omega)).mono ?_
  rintro e w17 ⟨rfl, hxg, hmw17⟩
  have zw17 : w16.heap.size ≤ w17.heap.size := hmw17.size
  replace hLP0 := hLP0.marked hmw17 (fun h2 => by have e1 := log _ h2; have e2 := hig _ h2; omega)
  replace lP0 := hLP0.cells2
  replace yP0 := hLP0.lt
  replace how := how.uKeep hmw17 (fun g h1 h2 => by have e1 := log _ h2; have e2 := hig _ h2; have e3 := low _ h1; have e4 := hiw _ h1; omega)
  replace hog := hxg
  replace hB := Marked.below hB hmw17 hB.size (fun k h2 => by have e1 := log _ h2; omega)
  go_wp2_with fail
  refine (heldRow_u (hog.row) (by omega) (by omega)).mono ?_
  rintro e w18 ⟨rfl, hbw18⟩
  have zw18 : w17.heap.size ≤ w18.heap.size := hbw18.size
  replace hLP0 := hLP0.below hbw18 hLP0.lt
  replace lP0 := hLP0.cells2
  replace yP0 := hLP0.lt
  replace how := how.below hbw18
  replace hog := hog.below hbw18
  replace hB := below_th hB hbw18
  go_wp2_with fail
  refine (toSol_u (h0_0.below hB) (by omega)).mono ?_
  rintro e w19 ⟨a_0z, c_0z, a'_0z, c'_0z, vs_z, vs'_z, rfl, hoz0, hbw19⟩
  have zw19 : w18.heap.size ≤ w19.heap.size := hbw19.size
  replace hLP0 := hLP0.below hbw19 hLP0.lt
  replace lP0 := hLP0.cells2
  replace yP0 := hLP0.lt
  replace how := how.below hbw19
  replace hog := hog.below hbw19
  replace hB := below_th hB hbw19
  have loz0 : ∀ g, SolS a_0z n_0 vs_z a'_0z n'_0 vs'_z g → w18.heap.size ≤ g := hoz0.uLo
  have hiz0 : ∀ g, SolS a_0z n_0 vs_z a'_0z n'_0 vs'_z g → g < w19.heap.size := hoz0.uHi
  go_wp2_with fail
  refine (toTbl_u (h2_0.below hB) (by omega)).mono ?_
  rintro e w20 ⟨a_2z, c_2z, vs_z, rfl, hoz2, hbw20⟩
  have zw20 : w19.heap.size ≤ w20.heap.size := hbw20.size
  replace hLP0 := hLP0.below hbw20 hLP0.lt
  replace lP0 := hLP0.cells2
  replace yP0 := hLP0.lt
  replace how := how.below hbw20
  replace hog := hog.below hbw20
  replace hoz0 := hoz0.below hbw20
  replace hB := below_th hB hbw20
  have loz2 : ∀ g, TblS a_2z n_2 vs_z g → w19.heap.size ≤ g := hoz2.uLo
  have hiz2 : ∀ g, TblS a_2z n_2 vs_z g → g < w20.heap.size := hoz2.uHi
  go_wp2_with fail
  refine (HI.out _ _ _ _ _ _ _ (hoz0.sol) (hoz2.tbl)).mono ?_
  rintro e w21 ⟨ah, nh, ch, rfl, hoh, hbw21⟩
  have zw21 : w20.heap.size ≤ w21.heap.size := hbw21.size
  replace hLP0 := hLP0.below hbw21 hLP0.lt
  replace lP0 := hLP0.cells2
  replace yP0 := hLP0.lt
  replace how := how.below hbw21
  replace hog := hog.below hbw21
  replace hoz0 := hoz0.below hbw21
  replace hoz2 := hoz2.below hbw21
  replace hB := below_th hB hbw21
  have loh : ∀ g, RowS ah g → w20.heap.size ≤ g := hoh.uLo
  have hih : ∀ g, RowS ah g → g < w21.heap.size := hoh.uHi
  have cph := hoh.cap
  have lnh : nh ≤ 1000000 := by have := hoh.len; omega
  go_wp2_with fail
  refine (eqRow_u (hoh.row) (how.row) (by omega)).mono ?_
  rintro e w22 ⟨rfl, hbw22⟩
  have zw22 : w21.heap.size ≤ w22.heap.size := hbw22.size
  replace hLP0 := hLP0.below hbw22 hLP0.lt
  replace lP0 := hLP0.cells2
  replace yP0 := hLP0.lt
  replace how := how.below hbw22
  replace hog := hog.below hbw22
  replace hoh := hoh.below hbw22
  replace hB := below_th hB hbw22
  go_wp2_with fail
  refine (heldRow_u (hog.row) (by omega) (by omega)).mono ?_
  rintro e w23 ⟨rfl, hbw23⟩
  have zw23 : w22.heap.size ≤ w23.heap.size := hbw23.size
  replace hLP0 := hLP0.below hbw23 hLP0.lt
  replace lP0 := hLP0.cells2
  replace yP0 := hLP0.lt
  replace how := how.below hbw23
  replace hog := hog.below hbw23
  replace hoh := hoh.below hbw23
  replace hB := below_th hB hbw23
  go_wp2_with fail
  go_ret
  exact ⟨rfl, hB⟩

theorem law_Wtf (w : World) (a_0 : Option Addr) (n_0 : Nat) (c_0 : Nat) (xss_0 : List (List Int)) (a'_0 : Option Addr) (n'_0 : Nat) (c'_0 : Nat) (yss_0 : List (List Int)) (h0_0 : Sol w a_0 n_0 xss_0 a'_0 n'_0 yss_0) (h0_1 : n_0 ≤ 9223372036854775807 ∧ n'_0 ≤ 9223372036854775807) (x_1 : Int) (h1_0 : I64 x_1) (a_2 : Option Addr) (n_2 : Nat) (c_2 : Nat) (xss_2 : List (List Int)) (h2_0 : Tbl w a_2 n_2 xss_2) (h2_1 : n_2 ≤ 9223372036854775807) : Calls Try.prog 5 #[sAgg a_0 n_0 c_0 a'_0 n'_0 c'_0, .int .i64 x_1, .slice a_2 n_2 c_2] w fun e w' => e = .returned (.bool true) ∧ Below w.heap.size w w' := by
  refine (Classical.em ((n_0 + tot xss_0 + n'_0 + tot yss_0) ≤ 1048576)).elim (fun c0 => ?_) (fun c0 => law_Wtf_big0 w a_0 n_0 c_0 xss_0 a'_0 n'_0 c'_0 yss_0 x_1 a_2 n_2 c_2 xss_2 h0_0 h0_1 h1_0 h2_0 h2_1  (by omega))
  refine (Classical.em ((n_0 + tot xss_0 + n'_0 + tot yss_0) + (n_2 + tot xss_2) ≤ 1048576)).elim (fun c1 => ?_) (fun c1 => law_Wtf_big1 w a_0 n_0 c_0 xss_0 a'_0 n'_0 c'_0 yss_0 x_1 a_2 n_2 c_2 xss_2 h0_0 h0_1 h1_0 h2_0 h2_1  c0 (by omega))
  exact law_Wtf_small w a_0 n_0 c_0 xss_0 a'_0 n'_0 c'_0 yss_0 x_1 a_2 n_2 c_2 xss_2 h0_0 h0_1 h1_0 h2_0 h2_1  c1

end Go.Proofs.Ytfmcaflefiapoaa
