/-
  The walk of the law of WeightOfTuple: it answers true.
  No condition.
-/
import Derived.Test.YtfmcaflefiapoaaWtB
import Derived.Test.YtfmcaflefiapoaaU
import Derived.Test.YtfmcaflefiapoaaUB
import Derived.Test.YtfmcaflefiapoaaUS
import Derived.Test.YtfmcaflefiapoaaUT
import Derived.Test.YtfmcaflefiapoaaOpen
import Derived.Deep.RegionHeld3
namespace Go.Proofs.Ytfmcaflefiapoaa
set_option maxRecDepth 100000
set_option linter.unusedVariables false
set_option linter.unusedSimpArgs false
open Go.RowKit

theorem law_Wot_bigr0 (w : World) (a_0 : Option Addr) (n_0 : Nat) (c_0 : Nat) (xss_0 : List (List Int)) (a'_0 : Option Addr) (n'_0 : Nat) (c'_0 : Nat) (yss_0 : List (List Int)) (x_1 : Int) (a_2 : Option Addr) (n_2 : Nat) (c_2 : Nat) (xss_2 : List (List Int)) (s_3 : Int) (a_3 : Option Addr) (n_3 : Nat) (c_3 : Nat) (xs_3 : List Int) (a_4 : Option Addr) (n_4 : Nat) (c_4 : Nat) (xs_4 : List Int) (h0_0 : Sol w a_0 n_0 xss_0 a'_0 n'_0 yss_0) (h0_1 : n_0 ≤ 9223372036854775807 ∧ n'_0 ≤ 9223372036854775807) (h1_0 : I64 x_1) (h2_0 : Tbl w a_2 n_2 xss_2) (h2_1 : n_2 ≤ 9223372036854775807) (h3_0 : I64 s_3) (h3_1 : Row w a_3 n_3 xs_3) (h3_2 : n_3 ≤ 9223372036854775807) (h3_3 : I64s xs_3) (h4_0 : Row w a_4 n_4 xs_4) (h4_1 : n_4 ≤ 9223372036854775807) (h4_2 : I64s xs_4)  (hbig : 1048576 < n_4) : Calls Try.prog 3 #[sAgg a_0 n_0 c_0 a'_0 n'_0 c'_0, .int .i64 x_1, .slice a_2 n_2 c_2, bAgg s_3 a_3 n_3 c_3, .slice a_4 n_4 c_4] w fun e w' => e = .returned (.bool true) ∧ Below w.heap.size w w' := by
  go_enter Try.func3, Try.ntmps3
  go_wp2
  go_ret
  exact ⟨rfl, below_al (below_al (Below.refl _ _) _) _⟩

set_option maxHeartbeats 2000000 in
theorem law_Wot_big0 (w : World) (a_0 : Option Addr) (n_0 : Nat) (c_0 : Nat) (xss_0 : List (List Int)) (a'_0 : Option Addr) (n'_0 : Nat) (c'_0 : Nat) (yss_0 : List (List Int)) (x_1 : Int) (a_2 : Option Addr) (n_2 : Nat) (c_2 : Nat) (xss_2 : List (List Int)) (s_3 : Int) (a_3 : Option Addr) (n_3 : Nat) (c_3 : Nat) (xs_3 : List Int) (a_4 : Option Addr) (n_4 : Nat) (c_4 : Nat) (xs_4 : List Int) (h0_0 : Sol w a_0 n_0 xss_0 a'_0 n'_0 yss_0) (h0_1 : n_0 ≤ 9223372036854775807 ∧ n'_0 ≤ 9223372036854775807) (h1_0 : I64 x_1) (h2_0 : Tbl w a_2 n_2 xss_2) (h2_1 : n_2 ≤ 9223372036854775807) (h3_0 : I64 s_3) (h3_1 : Row w a_3 n_3 xs_3) (h3_2 : n_3 ≤ 9223372036854775807) (h3_3 : I64s xs_3) (h4_0 : Row w a_4 n_4 xs_4) (h4_1 : n_4 ≤ 9223372036854775807) (h4_2 : I64s xs_4) (hs0 : n_4 ≤ 1048576) (hbig : 1048576 < (n_0 + tot xss_0 + n'_0 + tot yss_0)) : Calls Try.prog 3 #[sAgg a_0 n_0 c_0 a'_0 n'_0 c'_0, .int .i64 x_1, .slice a_2 n_2 c_2, bAgg s_3 a_3 n_3 c_3, .slice a_4 n_4 c_4] w fun e w' => e = .returned (.bool true) ∧ Below w.heap.size w w' := by
  go_enter Try.func3, Try.ntmps3
  have hB : Below w.heap.size w w := Below.refl _ _
  go_wp2_with fail
  refine (szSol_no' (((h0_0.below hB).alloc _).alloc _) (by omega) (by omega) (by omega) (by omega)).mono ?_
  rintro e w1 ⟨rfl, hbw1⟩
  have zw1 : w.heap.size + 2 ≤ w1.heap.size := by have := hbw1.size; simpa using this
  have hLP0 : Loc _ (w.heap.size) _ _ := ((Loc.new _ (by simp) _ _).alloc _).below hbw1 (by first | omega | (simp; done) | (simp; omega))
  have lP0 := hLP0.cells2
  have yP0 := hLP0.lt
  have hLP3 : Loc _ (w.heap.size + 1) _ _ := (Loc.new _ (by simp) _ _).below hbw1 (by first | omega | (simp; done) | (simp; omega))
  have lP3 := hLP3.cells2
  have yP3 := hLP3.lt
  replace hB := below_th (below_al (below_al hB _) _) hbw1
  go_wp2
  go_ret
  exact ⟨rfl, hB⟩

set_option maxHeartbeats 2000000 in
theorem law_Wot_big1 (w : World) (a_0 : Option Addr) (n_0 : Nat) (c_0 : Nat) (xss_0 : List (List Int)) (a'_0 : Option Addr) (n'_0 : Nat) (c'_0 : Nat) (yss_0 : List (List Int)) (x_1 : Int) (a_2 : Option Addr) (n_2 : Nat) (c_2 : Nat) (xss_2 : List (List Int)) (s_3 : Int) (a_3 : Option Addr) (n_3 : Nat) (c_3 : Nat) (xs_3 : List Int) (a_4 : Option Addr) (n_4 : Nat) (c_4 : Nat) (xs_4 : List Int) (h0_0 : Sol w a_0 n_0 xss_0 a'_0 n'_0 yss_0) (h0_1 : n_0 ≤ 9223372036854775807 ∧ n'_0 ≤ 9223372036854775807) (h1_0 : I64 x_1) (h2_0 : Tbl w a_2 n_2 xss_2) (h2_1 : n_2 ≤ 9223372036854775807) (h3_0 : I64 s_3) (h3_1 : Row w a_3 n_3 xs_3) (h3_2 : n_3 ≤ 9223372036854775807) (h3_3 : I64s xs_3) (h4_0 : Row w a_4 n_4 xs_4) (h4_1 : n_4 ≤ 9223372036854775807) (h4_2 : I64s xs_4) (hs0 : n_4 ≤ 1048576) (hpre : (n_0 + tot xss_0 + n'_0 + tot yss_0) ≤ 1048576) (hbig : 1048576 < (n_0 + tot xss_0 + n'_0 + tot yss_0) + (n_2 + tot xss_2)) : Calls Try.prog 3 #[sAgg a_0 n_0 c_0 a'_0 n'_0 c'_0, .int .i64 x_1, .slice a_2 n_2 c_2, bAgg s_3 a_3 n_3 c_3, .slice a_4 n_4 c_4] w fun e w' => e = .returned (.bool true) ∧ Below w.heap.size w w' := by
  go_enter Try.func3, Try.ntmps3
  have hB : Below w.heap.size w w := Below.refl _ _
  go_wp2_with fail
  refine (szSol_ok' (((h0_0.below hB).alloc _).alloc _) (by omega) (by omega)).mono ?_
  rintro e w1 ⟨rfl, hbw1⟩
  have zw1 : w.heap.size + 2 ≤ w1.heap.size := by have := hbw1.size; simpa using this
  have hLP0 : Loc _ (w.heap.size) _ _ := ((Loc.new _ (by simp) _ _).alloc _).below hbw1 (by first | omega | (simp; done) | (simp; omega))
  have lP0 := hLP0.cells2
  have yP0 := hLP0.lt
  have hLP3 : Loc _ (w.heap.size + 1) _ _ := (Loc.new _ (by simp) _ _).below hbw1 (by first | omega | (simp; done) | (simp; omega))
  have lP3 := hLP3.cells2
  have yP3 := hLP3.lt
  replace hB := below_th (below_al (below_al hB _) _) hbw1
  go_wp2_with fail
  refine (szTbl_no' (h2_0.below hB) (by omega) (by omega) (by omega) (by omega)).mono ?_
  rintro e w2 ⟨rfl, hbw2⟩
  have zw2 : w1.heap.size ≤ w2.heap.size := hbw2.size
  replace hLP0 := hLP0.below hbw2 hLP0.lt
  replace lP0 := hLP0.cells2
  replace yP0 := hLP0.lt
  replace hLP3 := hLP3.below hbw2 hLP3.lt
  replace lP3 := hLP3.cells2
  replace yP3 := hLP3.lt
  replace hB := below_th hB hbw2
  go_wp2
  go_ret
  exact ⟨rfl, hB⟩

set_option maxHeartbeats 2000000 in
theorem law_Wot_big2 (w : World) (a_0 : Option Addr) (n_0 : Nat) (c_0 : Nat) (xss_0 : List (List Int)) (a'_0 : Option Addr) (n'_0 : Nat) (c'_0 : Nat) (yss_0 : List (List Int)) (x_1 : Int) (a_2 : Option Addr) (n_2 : Nat) (c_2 : Nat) (xss_2 : List (List Int)) (s_3 : Int) (a_3 : Option Addr) (n_3 : Nat) (c_3 : Nat) (xs_3 : List Int) (a_4 : Option Addr) (n_4 : Nat) (c_4 : Nat) (xs_4 : List Int) (h0_0 : Sol w a_0 n_0 xss_0 a'_0 n'_0 yss_0) (h0_1 : n_0 ≤ 9223372036854775807 ∧ n'_0 ≤ 9223372036854775807) (h1_0 : I64 x_1) (h2_0 : Tbl w a_2 n_2 xss_2) (h2_1 : n_2 ≤ 9223372036854775807) (h3_0 : I64 s_3) (h3_1 : Row w a_3 n_3 xs_3) (h3_2 : n_3 ≤ 9223372036854775807) (h3_3 : I64s xs_3) (h4_0 : Row w a_4 n_4 xs_4) (h4_1 : n_4 ≤ 9223372036854775807) (h4_2 : I64s xs_4) (hs0 : n_4 ≤ 1048576) (hpre : (n_0 + tot xss_0 + n'_0 + tot yss_0) + (n_2 + tot xss_2) ≤ 1048576) (hbig : 1048576 < (n_0 + tot xss_0 + n'_0 + tot yss_0) + (n_2 + tot xss_2) + (n_3)) : Calls Try.prog 3 #[sAgg a_0 n_0 c_0 a'_0 n'_0 c'_0, .int .i64 x_1, .slice a_2 n_2 c_2, bAgg s_3 a_3 n_3 c_3, .slice a_4 n_4 c_4] w fun e w' => e = .returned (.bool true) ∧ Below w.heap.size w w' := by
  go_enter Try.func3, Try.ntmps3
  have hB : Below w.heap.size w w := Below.refl _ _
  go_wp2_with fail
  refine (szSol_ok' (((h0_0.below hB).alloc _).alloc _) (by omega) (by omega)).mono ?_
  rintro e w1 ⟨rfl, hbw1⟩
  have zw1 : w.heap.size + 2 ≤ w1.heap.size := by have := hbw1.size; simpa using this
  have hLP0 : Loc _ (w.heap.size) _ _ := ((Loc.new _ (by simp) _ _).alloc _).below hbw1 (by first | omega | (simp; done) | (simp; omega))
  have lP0 := hLP0.cells2
  have yP0 := hLP0.lt
  have hLP3 : Loc _ (w.heap.size + 1) _ _ := (Loc.new _ (by simp) _ _).below hbw1 (by first | omega | (simp; done) | (simp; omega))
  have lP3 := hLP3.cells2
  have yP3 := hLP3.lt
  replace hB := below_th (below_al (below_al hB _) _) hbw1
  go_wp2_with fail
  refine (szTbl_ok' (h2_0.below hB) (by omega) (by omega)).mono ?_
  rintro e w2 ⟨rfl, hbw2⟩
  have zw2 : w1.heap.size ≤ w2.heap.size := hbw2.size
  replace hLP0 := hLP0.below hbw2 hLP0.lt
  replace lP0 := hLP0.cells2
  replace yP0 := hLP0.lt
  replace hLP3 := hLP3.below hbw2 hLP3.lt
  replace lP3 := hLP3.cells2
  replace yP3 := hLP3.lt
  replace hB := below_th hB hbw2
  go_wp2_with fail
  refine (szBraid_no' (h3_1.below hB) (by omega) (by omega) (by omega) (by omega)).mono ?_
  rintro e w3 ⟨rfl, hbw3⟩
  have zw3 : w2.heap.size ≤ w3.heap.size := hbw3.size
  replace hLP0 := hLP0.below hbw3 hLP0.lt
  replace lP0 := hLP0.cells2
  replace yP0 := hLP0.lt
  replace hLP3 := hLP3.below hbw3 hLP3.lt
  replace lP3 := hLP3.cells2
  replace yP3 := hLP3.lt
  replace hB := below_th hB hbw3
  go_wp2
  go_ret
  exact ⟨rfl, hB⟩

set_option maxHeartbeats 8000000 in
theorem law_Wot_small (w : World) (a_0 : Option Addr) (n_0 : Nat) (c_0 : Nat) (xss_0 : List (List Int)) (a'_0 : Option Addr) (n'_0 : Nat) (c'_0 : Nat) (yss_0 : List (List Int)) (x_1 : Int) (a_2 : Option Addr) (n_2 : Nat) (c_2 : Nat) (xss_2 : List (List Int)) (s_3 : Int) (a_3 : Option Addr) (n_3 : Nat) (c_3 : Nat) (xs_3 : List Int) (a_4 : Option Addr) (n_4 : Nat) (c_4 : Nat) (xs_4 : List Int) (h0_0 : Sol w a_0 n_0 xss_0 a'_0 n'_0 yss_0) (h0_1 : n_0 ≤ 9223372036854775807 ∧ n'_0 ≤ 9223372036854775807) (h1_0 : I64 x_1) (h2_0 : Tbl w a_2 n_2 xss_2) (h2_1 : n_2 ≤ 9223372036854775807) (h3_0 : I64 s_3) (h3_1 : Row w a_3 n_3 xs_3) (h3_2 : n_3 ≤ 9223372036854775807) (h3_3 : I64s xs_3) (h4_0 : Row w a_4 n_4 xs_4) (h4_1 : n_4 ≤ 9223372036854775807) (h4_2 : I64s xs_4) (hs0 : n_4 ≤ 1048576) (hs1 : (n_0 + tot xss_0 + n'_0 + tot yss_0) + (n_2 + tot xss_2) + (n_3) ≤ 1048576) : Calls Try.prog 3 #[sAgg a_0 n_0 c_0 a'_0 n'_0 c'_0, .int .i64 x_1, .slice a_2 n_2 c_2, bAgg s_3 a_3 n_3 c_3, .slice a_4 n_4 c_4] w fun e w' => e = .returned (.bool true) ∧ Below w.heap.size w w' := by
  obtain ⟨rd, code, HS, HI⟩ : ∃ (rd : Int) (code : Int), Hid (∀ (w' : World) (a_0q : Option Addr) (c_0q : Nat) (a'_0q : Option Addr) (c'_0q : Nat) (a_2q : Option Addr) (c_2q : Nat) (a_3q : Option Addr) (c_3q : Nat) (a_4q : Option Addr) (c_4q : Nat), Sol w' a_0q n_0 xss_0 a'_0q n'_0 yss_0 → Tbl w' a_2q n_2 xss_2 → Row w' a_3q n_3 xs_3 → (n_3 ≤ c_3q ∧ c_3q ≤ 9223372036854775807) → Row w' a_4q n_4 xs_4 → Calls Try.prog 15 #[sAgg a_0q n_0 c_0q a'_0q n'_0 c'_0q, .int .i64 x_1, .slice a_2q n_2 c_2q, bAgg s_3 a_3q n_3 c_3q, .slice a_4q n_4 c_4q] w' (RetI w' rd code)) ∧ Hid (∀ (w' : World) (a_0q : Option Addr) (c_0q : Nat) (a'_0q : Option Addr) (c'_0q : Nat) (a_2q : Option Addr) (c_2q : Nat) (a_3q : Option Addr) (c_3q : Nat) (a_4q : Option Addr) (c_4q : Nat), Sol w' a_0q n_0 xss_0 a'_0q n'_0 yss_0 → Tbl w' a_2q n_2 xss_2 → Row w' a_3q n_3 xs_3 → (n_3 ≤ c_3q ∧ c_3q ≤ 9223372036854775807) → Row w' a_4q n_4 xs_4 → Calls Try.prog 20 #[sAgg a_0q n_0 c_0q a'_0q n'_0 c'_0q, .int .i64 x_1, .slice a_2q n_2 c_2q, bAgg s_3 a_3q n_3 c_3q, .slice a_4q n_4 c_4q] w' (RetI w' rd code)) :=
    ⟨_, _, Lib.hid fun w' a_0q c_0q a'_0q c'_0q a_2q c_2q a_3q c_3q a_4q c_4q r0 r2 r3 p3 r4 => spec_Wot_l a_0q n_0 c_0q xss_0 a'_0q n'_0 c'_0q yss_0 x_1 a_2q n_2 c_2q xss_2 s_3 a_3q n_3 c_3q xs_3 a_4q n_4 c_4q xs_4 w' r0 h0_1 h1_0 r2 h2_1 h3_0 r3 h3_2 h3_3 p3 r4 h4_1 h4_2, Lib.hid fun w' a_0q c_0q a'_0q c'_0q a_2q c_2q a_3q c_3q a_4q c_4q r0 r2 r3 p3 r4 => impl_Wot_l a_0q n_0 c_0q xss_0 a'_0q n'_0 c'_0q yss_0 x_1 a_2q n_2 c_2q xss_2 s_3 a_3q n_3 c_3q xs_3 a_4q n_4 c_4q xs_4 w' r0 h0_1 h1_0 r2 h2_1 h3_0 r3 h3_2 h3_3 p3 r4 h4_1 h4_2⟩
  have hne : (code != code) = false := by simp
  have hne0 : (rd != rd) = false := by simp
  go_enter Try.func3, Try.ntmps3
  have hB : Below w.heap.size w w := Below.refl _ _
  go_wp2_with fail
  refine (szSol_ok' (((h0_0.below hB).alloc _).alloc _) (by omega) (by omega)).mono ?_
  rintro e w1 ⟨rfl, hbw1⟩
  have zw1 : w.heap.size + 2 ≤ w1.heap.size := by have := hbw1.size; simpa using this
  have hLP0 : Loc _ (w.heap.size) _ _ := ((Loc.new _ (by simp) _ _).alloc _).below hbw1 (by first | omega | (simp; done) | (simp; omega))
  have lP0 := hLP0.cells2
  have yP0 := hLP0.lt
  have hLP3 : Loc _ (w.heap.size + 1) _ _ := (Loc.new _ (by simp) _ _).below hbw1 (by first | omega | (simp; done) | (simp; omega))
  have lP3 := hLP3.cells2
  have yP3 := hLP3.lt
  replace hB := below_th (below_al (below_al hB _) _) hbw1
  go_wp2_with fail
  refine (szTbl_ok' (h2_0.below hB) (by omega) (by omega)).mono ?_
  rintro e w2 ⟨rfl, hbw2⟩
  have zw2 : w1.heap.size ≤ w2.heap.size := hbw2.size
  replace hLP0 := hLP0.below hbw2 hLP0.lt
  replace lP0 := hLP0.cells2
  replace yP0 := hLP0.lt
  replace hLP3 := hLP3.below hbw2 hLP3.lt
  replace lP3 := hLP3.cells2
  replace yP3 := hLP3.lt
  replace hB := below_th hB hbw2
  go_wp2_with fail
  refine (szBraid_ok' (h3_1.below hB) (by omega) (by omega)).mono ?_
  rintro e w3 ⟨rfl, hbw3⟩
  have zw3 : w2.heap.size ≤ w3.heap.size := hbw3.size
  replace hLP0 := hLP0.below hbw3 hLP0.lt
  replace lP0 := hLP0.cells2
  replace yP0 := hLP0.lt
  replace hLP3 := hLP3.below hbw3 hLP3.lt
  replace lP3 := hLP3.cells2
  replace yP3 := hLP3.lt
  replace hB := below_th hB hbw3
  go_wp2_with fail
  have tok1 : True := trivial
  go_region_held3 (fun w' => (w'.cell? ⟨w.heap.size, 0, none⟩ = some (.slice a_0 n_0 c_0) ∧ w'.cell? ⟨w.heap.size, 1, none⟩ = some (.slice a'_0 n'_0 c'_0)) ∧ (w'.cell? ⟨w.heap.size + 1, 0, none⟩ = some (.int .i64 s_3) ∧ w'.cell? ⟨w.heap.size + 1, 1, none⟩ = some (.slice a_3 n_3 c_3)))
    (first | exact ⟨⟨lP0_w8.1, lP0_w8.2.1⟩, ⟨lP3_w8.1, lP3_w8.2.1⟩⟩ | exact ⟨⟨lP0_w7.1, lP0_w7.2.1⟩, ⟨lP3_w7.1, lP3_w7.2.1⟩⟩ | exact ⟨⟨lP0_w6.1, lP0_w6.2.1⟩, ⟨lP3_w6.1, lP3_w6.2.1⟩⟩ | exact ⟨⟨lP0_w5.1, lP0_w5.2.1⟩, ⟨lP3_w5.1, lP3_w5.2.1⟩⟩ | exact ⟨⟨lP0_w4.1, lP0_w4.2.1⟩, ⟨lP3_w4.1, lP3_w4.2.1⟩⟩ | exact ⟨⟨lP0.1, lP0.2.1⟩, ⟨lP3.1, lP3.2.1⟩⟩)
    (first
      | (go_at_call 16; have _t := tok1; clear _t tok1; have tok2 : True := trivial; refine (toSol_u ((h0_0.below hB).drewN 1) (by omega)).mono ?_; rintro e w4 ⟨a_0p, c_0p, a'_0p, c'_0p, vs_p, vs'_p, rfl, hop0_w4, hbw4⟩; have zw4 : w3.heap.size ≤ w4.heap.size := hbw4.size; have hrw4 : Below w3.heap.size w3 w4 := (Below.drew (Below.refl _ _)).trans hbw4; have hLP0_w4 := hLP0.below hrw4 hLP0.lt; have lP0_w4 := hLP0_w4.cells2; have hLP3_w4 := hLP3.below hrw4 hLP3.lt; have lP3_w4 := hLP3_w4.cells2; have lop0 : ∀ g, SolS a_0p n_0 vs_p a'_0p n'_0 vs'_p g → w3.heap.size ≤ g := hop0_w4.uLo; have hip0 : ∀ g, SolS a_0p n_0 vs_p a'_0p n'_0 vs'_p g → g < w4.heap.size := hop0_w4.uHi)
      | (go_at_call 17; have _t := tok2; clear _t tok2; have tok3 : True := trivial; refine (toTbl_u (h2_0.below (below_th hB hrw4)) (by omega)).mono ?_; rintro e w5 ⟨a_2p, c_2p, vs_p, rfl, hop2_w5, hbw5⟩; have zw5 : w4.heap.size ≤ w5.heap.size := hbw5.size; have hrw5 : Below w3.heap.size w3 w5 := below_th hrw4 hbw5; have hLP0_w5 := hLP0.below hrw5 hLP0.lt; have lP0_w5 := hLP0_w5.cells2; have hLP3_w5 := hLP3.below hrw5 hLP3.lt; have lP3_w5 := hLP3_w5.cells2; have hop0_w5 := hop0_w4.below hbw5; have lop2 : ∀ g, TblS a_2p n_2 vs_p g → w4.heap.size ≤ g := hop2_w5.uLo; have hip2 : ∀ g, TblS a_2p n_2 vs_p g → g < w5.heap.size := hop2_w5.uHi)
      | (go_at_call 18; have _t := tok3; clear _t tok3; have tok4 : True := trivial; refine (toBraid_u (h3_1.below (below_th hB hrw5)) (by omega)).mono ?_; rintro e w6 ⟨a_3p, c_3p, rfl, hop3_w6, hbw6⟩; have zw6 : w5.heap.size ≤ w6.heap.size := hbw6.size; have hrw6 : Below w3.heap.size w3 w6 := below_th hrw5 hbw6; have hLP0_w6 := hLP0.below hrw6 hLP0.lt; have lP0_w6 := hLP0_w6.cells2; have hLP3_w6 := hLP3.below hrw6 hLP3.lt; have lP3_w6 := hLP3_w6.cells2; have hop0_w6 := hop0_w5.below hbw6; have hop2_w6 := hop2_w5.below hbw6; have cpp3 := hop3_w6.cap; have lop3 : ∀ g, RowS a_3p g → w5.heap.size ≤ g := hop3_w6.uLo; have hip3 : ∀ g, RowS a_3p g → g < w6.heap.size := hop3_w6.uHi)
      | (go_at_call 19; have _t := tok4; clear _t tok4; have tok5 : True := trivial; refine (toRow_u (h4_0.below (below_th hB hrw6)) (by omega)).mono ?_; rintro e w7 ⟨a_4p, c_4p, rfl, hop4_w7, hbw7⟩; have zw7 : w6.heap.size ≤ w7.heap.size := hbw7.size; have hrw7 : Below w3.heap.size w3 w7 := below_th hrw6 hbw7; have hLP0_w7 := hLP0.below hrw7 hLP0.lt; have lP0_w7 := hLP0_w7.cells2; have hLP3_w7 := hLP3.below hrw7 hLP3.lt; have lP3_w7 := hLP3_w7.cells2; have hop0_w7 := hop0_w6.below hbw7; have hop2_w7 := hop2_w6.below hbw7; have hop3_w7 := hop3_w6.below hbw7; have lop4 : ∀ g, RowS a_4p g → w6.heap.size ≤ g := hop4_w7.uLo; have hip4 : ∀ g, RowS a_4p g → g < w7.heap.size := hop4_w7.uHi)
      | (go_at_call 15; have _t := tok5; clear _t tok5; have tok6 : True := trivial; refine (HS.out _ _ _ _ _ _ _ _ _ _ _ hop0_w7.sol hop2_w7.tbl hop3_w7.row cpp3 hop4_w7.row).mono ?_; rintro e w8 ⟨rfl, hbw8⟩; have zw8 : w7.heap.size ≤ w8.heap.size := hbw8.size; have hrw8 : Below w3.heap.size w3 w8 := below_th hrw7 hbw8; have hLP0_w8 := hLP0.below hrw8 hLP0.lt; have lP0_w8 := hLP0_w8.cells2; have hLP3_w8 := hLP3.below hrw8 hLP3.lt; have lP3_w8 := hLP3_w8.cells2; have hop0_w8 := hop0_w7.below hbw8; have hop2_w8 := hop2_w7.below hbw8; have hop3_w8 := hop3_w7.below hbw8; have hop4_w8 := hop4_w7.below hbw8))
  replace hLP0 := hLP0_w8
  replace lP0 := lP0_w8
  clear hLP0_w7 lP0_w7 hLP0_w6 lP0_w6 hLP0_w5 lP0_w5 hLP0_w4 lP0_w4
  replace yP0 := hLP0.lt
  replace hLP3 := hLP3_w8
  replace lP3 := lP3_w8
  clear hLP3_w7 lP3_w7 hLP3_w6 lP3_w6 hLP3_w5 lP3_w5 hLP3_w4 lP3_w4
  replace yP3 := hLP3.lt
  have hop0 := hop0_w8
  have hop2 := hop2_w8
  have hop3 := hop3_w8
  have hop4 := hop4_w8
  replace hB := below_th hB hrw8
  clear tok6
  go_wp2_with fail
  refine (toSol_u (h0_0.below hB) (by omega)).mono ?_
  rintro e w9 ⟨a_0x, c_0x, a'_0x, c'_0x, vs_x, vs'_x, rfl, hox0, hbw9⟩
  have zw9 : w8.heap.size ≤ w9.heap.size := hbw9.size
  replace hLP0 := hLP0.below hbw9 hLP0.lt
  replace lP0 := hLP0.cells2
  replace yP0 := hLP0.lt
  replace hLP3 := hLP3.below hbw9 hLP3.lt
  replace lP3 := hLP3.cells2
  replace yP3 := hLP3.lt
  replace hB := below_th hB hbw9
  have lox0 : ∀ g, SolS a_0x n_0 vs_x a'_0x n'_0 vs'_x g → w8.heap.size ≤ g := hox0.uLo
  have hix0 : ∀ g, SolS a_0x n_0 vs_x a'_0x n'_0 vs'_x g → g < w9.heap.size := hox0.uHi
  go_wp2_with fail
  refine (toTbl_u ((h2_0.below hB).alloc _) (by omega)).mono ?_
  rintro e w10 ⟨a_2x, c_2x, vs_x, rfl, hox2, hbw10⟩
  have zw10 : w9.heap.size + 1 ≤ w10.heap.size := by have := hbw10.size; simpa using this
  replace hLP0 := (hLP0.alloc _).below hbw10 (hLP0.alloc _).lt
  replace lP0 := hLP0.cells2
  replace yP0 := hLP0.lt
  replace hLP3 := (hLP3.alloc _).below hbw10 (hLP3.alloc _).lt
  replace lP3 := hLP3.cells2
  replace yP3 := hLP3.lt
  have hLX0 : Loc _ (w9.heap.size) _ _ := (Loc.new _ (by simp) _ _).below hbw10 (by first | omega | (simp; done) | (simp; omega))
  have lX0 := hLX0.cells2
  have yX0 := hLX0.lt
  replace hox0 := (hox0.alloc _).below hbw10
  replace hB := below_th (below_al hB _) hbw10
  have lox2 : ∀ g, TblS a_2x n_2 vs_x g → w9.heap.size + 1 ≤ g := fun g hg => by have := hox2.uLo g hg; simpa using this
  have hix2 : ∀ g, TblS a_2x n_2 vs_x g → g < w10.heap.size := hox2.uHi
  go_wp2_with fail
  refine (toBraid_u (h3_1.below hB) (by omega)).mono ?_
  rintro e w11 ⟨a_3x, c_3x, rfl, hox3, hbw11⟩
  have zw11 : w10.heap.size ≤ w11.heap.size := hbw11.size
  replace hLP0 := hLP0.below hbw11 hLP0.lt
  replace lP0 := hLP0.cells2
  replace yP0 := hLP0.lt
  replace hLP3 := hLP3.below hbw11 hLP3.lt
  replace lP3 := hLP3.cells2
  replace yP3 := hLP3.lt
  replace hLX0 := hLX0.below hbw11 hLX0.lt
  replace lX0 := hLX0.cells2
  replace yX0 := hLX0.lt
  replace hox0 := hox0.below hbw11
  replace hox2 := hox2.below hbw11
  replace hB := below_th hB hbw11
  have lox3 : ∀ g, RowS a_3x g → w10.heap.size ≤ g := hox3.uLo
  have hix3 : ∀ g, RowS a_3x g → g < w11.heap.size := hox3.uHi
  go_wp2_with fail
  refine (toRow_u ((h4_0.below hB).alloc _) (by omega)).mono ?_
  rintro e w12 ⟨a_4x, c_4x, rfl, hox4, hbw12⟩
  have zw12 : w11.heap.size + 1 ≤ w12.heap.size := by have := hbw12.size; simpa using this
  replace hLP0 := (hLP0.alloc _).below hbw12 (hLP0.alloc _).lt
  replace lP0 := hLP0.cells2
  replace yP0 := hLP0.lt
  replace hLP3 := (hLP3.alloc _).below hbw12 (hLP3.alloc _).lt
  replace lP3 := hLP3.cells2
  replace yP3 := hLP3.lt
  replace hLX0 := (hLX0.alloc _).below hbw12 (hLX0.alloc _).lt
  replace lX0 := hLX0.cells2
  replace yX0 := hLX0.lt
  have hLX3 : Loc _ (w11.heap.size) _ _ := (Loc.new _ (by simp) _ _).below hbw12 (by first | omega | (simp; done) | (simp; omega))
  have lX3 := hLX3.cells2
  have yX3 := hLX3.lt
  replace hox0 := (hox0.alloc _).below hbw12
  replace hox2 := (hox2.alloc _).below hbw12
  replace hox3 := (hox3.alloc _).below hbw12
  replace hB := below_th (below_al hB _) hbw12
  have lox4 : ∀ g, RowS a_4x g → w11.heap.size + 1 ≤ g := fun g hg => by have := hox4.uLo g hg; simpa using this
  have hix4 : ∀ g, RowS a_4x g → g < w12.heap.size := hox4.uHi
  go_wp2_with fail
  refine (HI.out _ _ _ _ _ _ _ _ _ _ _ (hox0.sol) (hox2.tbl) (hox3.row) hox3.cap (hox4.row)).mono ?_
  rintro e w13 ⟨rfl, hbw13⟩
  have zw13 : w12.heap.size ≤ w13.heap.size := hbw13.size
  replace hLP0 := hLP0.below hbw13 hLP0.lt
  replace lP0 := hLP0.cells2
  replace yP0 := hLP0.lt
  replace hLP3 := hLP3.below hbw13 hLP3.lt
  replace lP3 := hLP3.cells2
  replace yP3 := hLP3.lt
  replace hLX0 := hLX0.below hbw13 hLX0.lt
  replace lX0 := hLX0.cells2
  replace yX0 := hLX0.lt
  replace hLX3 := hLX3.below hbw13 hLX3.lt
  replace lX3 := hLX3.cells2
  replace yX3 := hLX3.lt
  replace hox0 := hox0.below hbw13
  replace hox2 := hox2.below hbw13
  replace hox3 := hox3.below hbw13
  replace hox4 := hox4.below hbw13
  replace hB := below_th hB hbw13
  go_wp2_with fail
  have tok1 : True := trivial
  go_region_held3 (fun w' => (w'.cell? ⟨w.heap.size, 0, none⟩ = some (.slice a_0 n_0 c_0) ∧ w'.cell? ⟨w.heap.size, 1, none⟩ = some (.slice a'_0 n'_0 c'_0)) ∧ (w'.cell? ⟨w9.heap.size, 0, none⟩ = some (.slice a_0x n_0 c_0x) ∧ w'.cell? ⟨w9.heap.size, 1, none⟩ = some (.slice a'_0x n'_0 c'_0x)))
    (first | exact ⟨⟨lP0_w15.1, lP0_w15.2.1⟩, ⟨lX0_w15.1, lX0_w15.2.1⟩⟩ | exact ⟨⟨lP0_w14.1, lP0_w14.2.1⟩, ⟨lX0_w14.1, lX0_w14.2.1⟩⟩ | exact ⟨⟨lP0.1, lP0.2.1⟩, ⟨lX0.1, lX0.2.1⟩⟩)
    (first
      | (go_at_call 16; have _t := tok1; clear _t tok1; have tok2 : True := trivial; refine (toSol_u ((h0_0.below hB).drewN 1) (by omega)).mono ?_; rintro e w14 ⟨a_0y, c_0y, a'_0y, c'_0y, vs_y, vs'_y, rfl, hoy0_w14, hbw14⟩; have zw14 : w13.heap.size ≤ w14.heap.size := hbw14.size; have hrw14 : Below w13.heap.size w13 w14 := (Below.drew (Below.refl _ _)).trans hbw14; have hLP0_w14 := hLP0.below hrw14 hLP0.lt; have lP0_w14 := hLP0_w14.cells2; have hLX0_w14 := hLX0.below hrw14 hLX0.lt; have lX0_w14 := hLX0_w14.cells2; have loy0 : ∀ g, SolS a_0y n_0 vs_y a'_0y n'_0 vs'_y g → w13.heap.size ≤ g := hoy0_w14.uLo; have hiy0 : ∀ g, SolS a_0y n_0 vs_y a'_0y n'_0 vs'_y g → g < w14.heap.size := hoy0_w14.uHi)
      | (go_at_call 21; have _t := tok2; clear _t tok2; have tok3 : True := trivial; refine (eqSol_u (hox0.below hrw14).sol hoy0_w14.sol (by omega)).mono ?_; rintro e w15 ⟨rfl, hbw15⟩; have zw15 : w14.heap.size ≤ w15.heap.size := hbw15.size; have hrw15 : Below w13.heap.size w13 w15 := below_th hrw14 hbw15; have hLP0_w15 := hLP0.below hrw15 hLP0.lt; have lP0_w15 := hLP0_w15.cells2; have hLX0_w15 := hLX0.below hrw15 hLX0.lt; have lX0_w15 := hLX0_w15.cells2; have hoy0_w15 := hoy0_w14.below hbw15))
  replace hLP0 := hLP0_w15
  replace lP0 := lP0_w15
  clear hLP0_w14 lP0_w14
  replace yP0 := hLP0.lt
  replace hLP3 := hLP3.below hrw15 hLP3.lt
  replace lP3 := hLP3.cells2
  replace yP3 := hLP3.lt
  replace hLX0 := hLX0_w15
  replace lX0 := lX0_w15
  clear hLX0_w14 lX0_w14
  replace yX0 := hLX0.lt
  replace hLX3 := hLX3.below hrw15 hLX3.lt
  replace lX3 := hLX3.cells2
  replace yX3 := hLX3.lt
  replace hox0 := hox0.below hrw15
  replace hox2 := hox2.below hrw15
  replace hox3 := hox3.below hrw15
  replace hox4 := hox4.below hrw15
  have hoy0 := hoy0_w15
  replace hB := below_th hB hrw15
  clear tok3
  go_wp2_with fail
  refine (toTbl_u (h2_0.below hB) (by omega)).mono ?_
  rintro e w16 ⟨a_2y, c_2y, vs_y, rfl, hoy2, hbw16⟩
  have zw16 : w15.heap.size ≤ w16.heap.size := hbw16.size
  replace hLP0 := hLP0.below hbw16 hLP0.lt
  replace lP0 := hLP0.cells2
  replace yP0 := hLP0.lt
  replace hLP3 := hLP3.below hbw16 hLP3.lt
  replace lP3 := hLP3.cells2
  replace yP3 := hLP3.lt
  replace hLX0 := hLX0.below hbw16 hLX0.lt
  replace lX0 := hLX0.cells2
  replace yX0 := hLX0.lt
  replace hLX3 := hLX3.below hbw16 hLX3.lt
  replace lX3 := hLX3.cells2
  replace yX3 := hLX3.lt
  replace hox0 := hox0.below hbw16
  replace hox2 := hox2.below hbw16
  replace hox3 := hox3.below hbw16
  replace hox4 := hox4.below hbw16
  replace hB := below_th hB hbw16
  have loy2 : ∀ g, TblS a_2y n_2 vs_y g → w15.heap.size ≤ g := hoy2.uLo
  have hiy2 : ∀ g, TblS a_2y n_2 vs_y g → g < w16.heap.size := hoy2.uHi
  go_wp2_with fail
  refine (eqTbl_u (hox2.tbl) (hoy2.tbl) (by omega)).mono ?_
  rintro e w17 ⟨rfl, hbw17⟩
  have zw17 : w16.heap.size ≤ w17.heap.size := hbw17.size
  replace hLP0 := hLP0.below hbw17 hLP0.lt
  replace lP0 := hLP0.cells2
  replace yP0 := hLP0.lt
  replace hLP3 := hLP3.below hbw17 hLP3.lt
  replace lP3 := hLP3.cells2
  replace yP3 := hLP3.lt
  replace hLX0 := hLX0.below hbw17 hLX0.lt
  replace lX0 := hLX0.cells2
  replace yX0 := hLX0.lt
  replace hLX3 := hLX3.below hbw17 hLX3.lt
  replace lX3 := hLX3.cells2
  replace yX3 := hLX3.lt
  replace hox0 := hox0.below hbw17
  replace hox2 := hox2.below hbw17
  replace hox3 := hox3.below hbw17
  replace hox4 := hox4.below hbw17
  replace hoy2 := hoy2.below hbw17
  replace hB := below_th hB hbw17
  go_wp2_with fail
  have tok1 : True := trivial
  go_region_held3 (fun w' => (w'.cell? ⟨w.heap.size + 1, 0, none⟩ = some (.int .i64 s_3) ∧ w'.cell? ⟨w.heap.size + 1, 1, none⟩ = some (.slice a_3 n_3 c_3)) ∧ (w'.cell? ⟨w11.heap.size, 0, none⟩ = some (.int .i64 s_3) ∧ w'.cell? ⟨w11.heap.size, 1, none⟩ = some (.slice a_3x n_3 c_3x)))
    (first | exact ⟨⟨lP3_w19.1, lP3_w19.2.1⟩, ⟨lX3_w19.1, lX3_w19.2.1⟩⟩ | exact ⟨⟨lP3_w18.1, lP3_w18.2.1⟩, ⟨lX3_w18.1, lX3_w18.2.1⟩⟩ | exact ⟨⟨lP3.1, lP3.2.1⟩, ⟨lX3.1, lX3.2.1⟩⟩)
    (first
      | (go_at_call 18; have _t := tok1; clear _t tok1; have tok2 : True := trivial; refine (toBraid_u ((h3_1.below hB).drewN 1) (by omega)).mono ?_; rintro e w18 ⟨a_3y, c_3y, rfl, hoy3_w18, hbw18⟩; have zw18 : w17.heap.size ≤ w18.heap.size := hbw18.size; have hrw18 : Below w17.heap.size w17 w18 := (Below.drew (Below.refl _ _)).trans hbw18; have hLP3_w18 := hLP3.below hrw18 hLP3.lt; have lP3_w18 := hLP3_w18.cells2; have hLX3_w18 := hLX3.below hrw18 hLX3.lt; have lX3_w18 := hLX3_w18.cells2; have cpy3 := hoy3_w18.cap; have loy3 : ∀ g, RowS a_3y g → w17.heap.size ≤ g := hoy3_w18.uLo; have hiy3 : ∀ g, RowS a_3y g → g < w18.heap.size := hoy3_w18.uHi)
      | (go_at_call 23; have _t := tok2; clear _t tok2; have tok3 : True := trivial; refine (eqBraid_u (hox3.below hrw18).row hoy3_w18.row (by omega)).mono ?_; rintro e w19 ⟨rfl, hbw19⟩; have zw19 : w18.heap.size ≤ w19.heap.size := hbw19.size; have hrw19 : Below w17.heap.size w17 w19 := below_th hrw18 hbw19; have hLP3_w19 := hLP3.below hrw19 hLP3.lt; have lP3_w19 := hLP3_w19.cells2; have hLX3_w19 := hLX3.below hrw19 hLX3.lt; have lX3_w19 := hLX3_w19.cells2; have hoy3_w19 := hoy3_w18.below hbw19))
  replace hLP0 := hLP0.below hrw19 hLP0.lt
  replace lP0 := hLP0.cells2
  replace yP0 := hLP0.lt
  replace hLP3 := hLP3_w19
  replace lP3 := lP3_w19
  clear hLP3_w18 lP3_w18
  replace yP3 := hLP3.lt
  replace hLX0 := hLX0.below hrw19 hLX0.lt
  replace lX0 := hLX0.cells2
  replace yX0 := hLX0.lt
  replace hLX3 := hLX3_w19
  replace lX3 := lX3_w19
  clear hLX3_w18 lX3_w18
  replace yX3 := hLX3.lt
  replace hox0 := hox0.below hrw19
  replace hox2 := hox2.below hrw19
  replace hox3 := hox3.below hrw19
  replace hox4 := hox4.below hrw19
  have hoy3 := hoy3_w19
  replace hB := below_th hB hrw19
  clear tok3
  go_wp2_with fail
  refine (toRow_u (h4_0.below hB) (by omega)).mono ?_
  rintro e w20 ⟨a_4y, c_4y, rfl, hoy4, hbw20⟩
  have zw20 : w19.heap.size ≤ w20.heap.size := hbw20.size
  replace hLP0 := hLP0.below hbw20 hLP0.lt
  replace lP0 := hLP0.cells2
  replace yP0 := hLP0.lt
  replace hLP3 := hLP3.below hbw20 hLP3.lt
  replace lP3 := hLP3.cells2
  replace yP3 := hLP3.lt
  replace hLX0 := hLX0.below hbw20 hLX0.lt
  replace lX0 := hLX0.cells2
  replace yX0 := hLX0.lt
  replace hLX3 := hLX3.below hbw20 hLX3.lt
  replace lX3 := hLX3.cells2
  replace yX3 := hLX3.lt
  replace hox0 := hox0.below hbw20
  replace hox2 := hox2.below hbw20
  replace hox3 := hox3.below hbw20
  replace hox4 := hox4.below hbw20
  replace hB := below_th hB hbw20
  have loy4 : ∀ g, RowS a_4y g → w19.heap.size ≤ g := hoy4.uLo
  have hiy4 : ∀ g, RowS a_4y g → g < w20.heap.size := hoy4.uHi
  go_wp2_with fail
  refine (eqRow_u (hox4.row) (hoy4.row) (by omega)).mono ?_
  rintro e w21 ⟨rfl, hbw21⟩
  have zw21 : w20.heap.size ≤ w21.heap.size := hbw21.size
  replace hLP0 := hLP0.below hbw21 hLP0.lt
  replace lP0 := hLP0.cells2
  replace yP0 := hLP0.lt
  replace hLP3 := hLP3.below hbw21 hLP3.lt
  replace lP3 := hLP3.cells2
  replace yP3 := hLP3.lt
  replace hLX0 := hLX0.below hbw21 hLX0.lt
  replace lX0 := hLX0.cells2
  replace yX0 := hLX0.lt
  replace hLX3 := hLX3.below hbw21 hLX3.lt
  replace lX3 := hLX3.cells2
  replace yX3 := hLX3.lt
  replace hox0 := hox0.below hbw21
  replace hox2 := hox2.below hbw21
  replace hox3 := hox3.below hbw21
  replace hox4 := hox4.below hbw21
  replace hoy4 := hoy4.below hbw21
  replace hB := below_th hB hbw21
  go_wp2_with fail
  go_ret
  exact ⟨rfl, hB⟩

theorem law_Wot (w : World) (a_0 : Option Addr) (n_0 : Nat) (c_0 : Nat) (xss_0 : List (List Int)) (a'_0 : Option Addr) (n'_0 : Nat) (c'_0 : Nat) (yss_0 : List (List Int)) (h0_0 : Sol w a_0 n_0 xss_0 a'_0 n'_0 yss_0) (h0_1 : n_0 ≤ 9223372036854775807 ∧ n'_0 ≤ 9223372036854775807) (x_1 : Int) (h1_0 : I64 x_1) (a_2 : Option Addr) (n_2 : Nat) (c_2 : Nat) (xss_2 : List (List Int)) (h2_0 : Tbl w a_2 n_2 xss_2) (h2_1 : n_2 ≤ 9223372036854775807) (s_3 : Int) (a_3 : Option Addr) (n_3 : Nat) (c_3 : Nat) (xs_3 : List Int) (h3_0 : I64 s_3) (h3_1 : Row w a_3 n_3 xs_3) (h3_2 : n_3 ≤ 9223372036854775807) (h3_3 : I64s xs_3) (a_4 : Option Addr) (n_4 : Nat) (c_4 : Nat) (xs_4 : List Int) (h4_0 : Row w a_4 n_4 xs_4) (h4_1 : n_4 ≤ 9223372036854775807) (h4_2 : I64s xs_4) : Calls Try.prog 3 #[sAgg a_0 n_0 c_0 a'_0 n'_0 c'_0, .int .i64 x_1, .slice a_2 n_2 c_2, bAgg s_3 a_3 n_3 c_3, .slice a_4 n_4 c_4] w fun e w' => e = .returned (.bool true) ∧ Below w.heap.size w w' := by
  refine (Classical.em (n_4 ≤ 1048576)).elim (fun c0 => ?_) (fun c0 => law_Wot_bigr0 w a_0 n_0 c_0 xss_0 a'_0 n'_0 c'_0 yss_0 x_1 a_2 n_2 c_2 xss_2 s_3 a_3 n_3 c_3 xs_3 a_4 n_4 c_4 xs_4 h0_0 h0_1 h1_0 h2_0 h2_1 h3_0 h3_1 h3_2 h3_3 h4_0 h4_1 h4_2  (by omega))
  refine (Classical.em ((n_0 + tot xss_0 + n'_0 + tot yss_0) ≤ 1048576)).elim (fun c1 => ?_) (fun c1 => law_Wot_big0 w a_0 n_0 c_0 xss_0 a'_0 n'_0 c'_0 yss_0 x_1 a_2 n_2 c_2 xss_2 s_3 a_3 n_3 c_3 xs_3 a_4 n_4 c_4 xs_4 h0_0 h0_1 h1_0 h2_0 h2_1 h3_0 h3_1 h3_2 h3_3 h4_0 h4_1 h4_2 c0 (by omega))
  refine (Classical.em ((n_0 + tot xss_0 + n'_0 + tot yss_0) + (n_2 + tot xss_2) ≤ 1048576)).elim (fun c2 => ?_) (fun c2 => law_Wot_big1 w a_0 n_0 c_0 xss_0 a'_0 n'_0 c'_0 yss_0 x_1 a_2 n_2 c_2 xss_2 s_3 a_3 n_3 c_3 xs_3 a_4 n_4 c_4 xs_4 h0_0 h0_1 h1_0 h2_0 h2_1 h3_0 h3_1 h3_2 h3_3 h4_0 h4_1 h4_2 c0 c1 (by omega))
  refine (Classical.em ((n_0 + tot xss_0 + n'_0 + tot yss_0) + (n_2 + tot xss_2) + (n_3) ≤ 1048576)).elim (fun c3 => ?_) (fun c3 => law_Wot_big2 w a_0 n_0 c_0 xss_0 a'_0 n'_0 c'_0 yss_0 x_1 a_2 n_2 c_2 xss_2 s_3 a_3 n_3 c_3 xs_3 a_4 n_4 c_4 xs_4 h0_0 h0_1 h1_0 h2_0 h2_1 h3_0 h3_1 h3_2 h3_3 h4_0 h4_1 h4_2 c0 c2 (by omega))
  exact law_Wot_small w a_0 n_0 c_0 xss_0 a'_0 n'_0 c'_0 yss_0 x_1 a_2 n_2 c_2 xss_2 s_3 a_3 n_3 c_3 xs_3 a_4 n_4 c_4 xs_4 h0_0 h0_1 h1_0 h2_0 h2_1 h3_0 h3_1 h3_2 h3_3 h4_0 h4_1 h4_2 c0 c3

end Go.Proofs.Ytfmcaflefiapoaa
