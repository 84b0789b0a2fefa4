/-
  The walk of the law of HaveEqualSums: it answers true.
  No condition.
-/
import Derived.Test.YtfmcaflefiapoaaHsB
import Derived.Test.YtfmcaflefiapoaaBase
import Derived.Deep.RegionHeld3
namespace Go.Proofs.Ytfmcaflefiapoaa
set_option maxRecDepth 100000
set_option linter.unusedVariables false
set_option linter.unusedSimpArgs false
open Go.RowKit

set_option maxHeartbeats 2000000 in
theorem law_Hs_big0 (w : World) (a_0 : Option Addr) (n_0 : Nat) (c_0 : Nat) (xss_0 : List (List Int)) (a'_0 : Option Addr) (n'_0 : Nat) (c'_0 : Nat) (yss_0 : List (List Int)) (x_1 : Int) (a_2 : Option Addr) (n_2 : Nat) (c_2 : Nat) (xss_2 : List (List Int)) (s_3 : Int) (a_3 : Option Addr) (n_3 : Nat) (c_3 : Nat) (xs_3 : List Int) (s_4 : Int) (a_4 : Option Addr) (n_4 : Nat) (c_4 : Nat) (xs_4 : List Int) (h0_0 : Sol w a_0 n_0 xss_0 a'_0 n'_0 yss_0) (h0_1 : n_0 ≤ 9223372036854775807 ∧ n'_0 ≤ 9223372036854775807) (h1_0 : I64 x_1) (h2_0 : Tbl w a_2 n_2 xss_2) (h2_1 : n_2 ≤ 9223372036854775807) (h3_0 : I64 s_3) (h3_1 : Row w a_3 n_3 xs_3) (h3_2 : n_3 ≤ 9223372036854775807) (h3_3 : I64s xs_3) (h4_0 : I64 s_4) (h4_1 : Row w a_4 n_4 xs_4) (h4_2 : n_4 ≤ 9223372036854775807) (h4_3 : I64s xs_4)  (hbig : 1048576 < (n_0 + tot xss_0 + n'_0 + tot yss_0)) : Calls Try.prog 9 #[sAgg a_0 n_0 c_0 a'_0 n'_0 c'_0, .int .i64 x_1, .slice a_2 n_2 c_2, bAgg s_3 a_3 n_3 c_3, bAgg s_4 a_4 n_4 c_4] w fun e w' => e = .returned (.bool true) ∧ Below w.heap.size w w' := by
  go_enter Try.func9, Try.ntmps9
  have hB : Below w.heap.size w w := Below.refl _ _
  go_wp2_with fail
  refine (szSol_no' ((((h0_0.below hB).alloc _).alloc _).alloc _) (by omega) (by omega) (by omega) (by omega)).mono ?_
  rintro e w1 ⟨rfl, hbw1⟩
  have zw1 : w.heap.size + 3 ≤ w1.heap.size := by have := hbw1.size; simpa using this
  have hLP0 : Loc _ (w.heap.size) _ _ := (((Loc.new _ (by simp) _ _).alloc _).alloc _).below hbw1 (by first | omega | (simp; done) | (simp; omega))
  have lP0 := hLP0.cells2
  have yP0 := hLP0.lt
  have hLP3 : Loc _ (w.heap.size + 1) _ _ := ((Loc.new _ (by simp) _ _).alloc _).below hbw1 (by first | omega | (simp; done) | (simp; omega))
  have lP3 := hLP3.cells2
  have yP3 := hLP3.lt
  have hLP4 : Loc _ (w.heap.size + 2) _ _ := (Loc.new _ (by simp) _ _).below hbw1 (by first | omega | (simp; done) | (simp; omega))
  have lP4 := hLP4.cells2
  have yP4 := hLP4.lt
  replace hB := below_th (below_al (below_al (below_al hB _) _) _) hbw1
  go_wp2
  go_ret
  exact ⟨rfl, hB⟩

set_option maxHeartbeats 2000000 in
theorem law_Hs_big1 (w : World) (a_0 : Option Addr) (n_0 : Nat) (c_0 : Nat) (xss_0 : List (List Int)) (a'_0 : Option Addr) (n'_0 : Nat) (c'_0 : Nat) (yss_0 : List (List Int)) (x_1 : Int) (a_2 : Option Addr) (n_2 : Nat) (c_2 : Nat) (xss_2 : List (List Int)) (s_3 : Int) (a_3 : Option Addr) (n_3 : Nat) (c_3 : Nat) (xs_3 : List Int) (s_4 : Int) (a_4 : Option Addr) (n_4 : Nat) (c_4 : Nat) (xs_4 : List Int) (h0_0 : Sol w a_0 n_0 xss_0 a'_0 n'_0 yss_0) (h0_1 : n_0 ≤ 9223372036854775807 ∧ n'_0 ≤ 9223372036854775807) (h1_0 : I64 x_1) (h2_0 : Tbl w a_2 n_2 xss_2) (h2_1 : n_2 ≤ 9223372036854775807) (h3_0 : I64 s_3) (h3_1 : Row w a_3 n_3 xs_3) (h3_2 : n_3 ≤ 9223372036854775807) (h3_3 : I64s xs_3) (h4_0 : I64 s_4) (h4_1 : Row w a_4 n_4 xs_4) (h4_2 : n_4 ≤ 9223372036854775807) (h4_3 : I64s xs_4)  (hpre : (n_0 + tot xss_0 + n'_0 + tot yss_0) ≤ 1048576) (hbig : 1048576 < (n_0 + tot xss_0 + n'_0 + tot yss_0) + (n_2 + tot xss_2)) : Calls Try.prog 9 #[sAgg a_0 n_0 c_0 a'_0 n'_0 c'_0, .int .i64 x_1, .slice a_2 n_2 c_2, bAgg s_3 a_3 n_3 c_3, bAgg s_4 a_4 n_4 c_4] w fun e w' => e = .returned (.bool true) ∧ Below w.heap.size w w' := by
  go_enter Try.func9, Try.ntmps9
  have hB : Below w.heap.size w w := Below.refl _ _
  go_wp2_with fail
  refine (szSol_ok' ((((h0_0.below hB).alloc _).alloc _).alloc _) (by omega) (by omega)).mono ?_
  rintro e w1 ⟨rfl, hbw1⟩
  have zw1 : w.heap.size + 3 ≤ w1.heap.size := by have := hbw1.size; simpa using this
  have hLP0 : Loc _ (w.heap.size) _ _ := (((Loc.new _ (by simp) _ _).alloc _).alloc _).below hbw1 (by first | omega | (simp; done) | (simp; omega))
  have lP0 := hLP0.cells2
  have yP0 := hLP0.lt
  have hLP3 : Loc _ (w.heap.size + 1) _ _ := ((Loc.new _ (by simp) _ _).alloc _).below hbw1 (by first | omega | (simp; done) | (simp; omega))
  have lP3 := hLP3.cells2
  have yP3 := hLP3.lt
  have hLP4 : Loc _ (w.heap.size + 2) _ _ := (Loc.new _ (by simp) _ _).below hbw1 (by first | omega | (simp; done) | (simp; omega))
  have lP4 := hLP4.cells2
  have yP4 := hLP4.lt
  replace hB := below_th (below_al (below_al (below_al hB _) _) _) hbw1
  go_wp2_with fail
  refine (szTbl_no' (h2_0.below hB) (by omega) (by omega) (by omega) (by omega)).mono ?_
  rintro e w2 ⟨rfl, hbw2⟩
  have zw2 : w1.heap.size ≤ w2.heap.size := hbw2.size
  replace hLP0 := hLP0.below hbw2 hLP0.lt
  replace lP0 := hLP0.cells2
  replace yP0 := hLP0.lt
  replace hLP3 := hLP3.below hbw2 hLP3.lt
  replace lP3 := hLP3.cells2
  replace yP3 := hLP3.lt
  replace hLP4 := hLP4.below hbw2 hLP4.lt
  replace lP4 := hLP4.cells2
  replace yP4 := hLP4.lt
  replace hB := below_th hB hbw2
  go_wp2
  go_ret
  exact ⟨rfl, hB⟩

set_option maxHeartbeats 2000000 in
theorem law_Hs_big2 (w : World) (a_0 : Option Addr) (n_0 : Nat) (c_0 : Nat) (xss_0 : List (List Int)) (a'_0 : Option Addr) (n'_0 : Nat) (c'_0 : Nat) (yss_0 : List (List Int)) (x_1 : Int) (a_2 : Option Addr) (n_2 : Nat) (c_2 : Nat) (xss_2 : List (List Int)) (s_3 : Int) (a_3 : Option Addr) (n_3 : Nat) (c_3 : Nat) (xs_3 : List Int) (s_4 : Int) (a_4 : Option Addr) (n_4 : Nat) (c_4 : Nat) (xs_4 : List Int) (h0_0 : Sol w a_0 n_0 xss_0 a'_0 n'_0 yss_0) (h0_1 : n_0 ≤ 9223372036854775807 ∧ n'_0 ≤ 9223372036854775807) (h1_0 : I64 x_1) (h2_0 : Tbl w a_2 n_2 xss_2) (h2_1 : n_2 ≤ 9223372036854775807) (h3_0 : I64 s_3) (h3_1 : Row w a_3 n_3 xs_3) (h3_2 : n_3 ≤ 9223372036854775807) (h3_3 : I64s xs_3) (h4_0 : I64 s_4) (h4_1 : Row w a_4 n_4 xs_4) (h4_2 : n_4 ≤ 9223372036854775807) (h4_3 : I64s xs_4)  (hpre : (n_0 + tot xss_0 + n'_0 + tot yss_0) + (n_2 + tot xss_2) ≤ 1048576) (hbig : 1048576 < (n_0 + tot xss_0 + n'_0 + tot yss_0) + (n_2 + tot xss_2) + (n_3)) : Calls Try.prog 9 #[sAgg a_0 n_0 c_0 a'_0 n'_0 c'_0, .int .i64 x_1, .slice a_2 n_2 c_2, bAgg s_3 a_3 n_3 c_3, bAgg s_4 a_4 n_4 c_4] w fun e w' => e = .returned (.bool true) ∧ Below w.heap.size w w' := by
  go_enter Try.func9, Try.ntmps9
  have hB : Below w.heap.size w w := Below.refl _ _
  go_wp2_with fail
  refine (szSol_ok' ((((h0_0.below hB).alloc _).alloc _).alloc _) (by omega) (by omega)).mono ?_
  rintro e w1 ⟨rfl, hbw1⟩
  have zw1 : w.heap.size + 3 ≤ w1.heap.size := by have := hbw1.size; simpa using this
  have hLP0 : Loc _ (w.heap.size) _ _ := (((Loc.new _ (by simp) _ _).alloc _).alloc _).below hbw1 (by first | omega | (simp; done) | (simp; omega))
  have lP0 := hLP0.cells2
  have yP0 := hLP0.lt
  have hLP3 : Loc _ (w.heap.size + 1) _ _ := ((Loc.new _ (by simp) _ _).alloc _).below hbw1 (by first | omega | (simp; done) | (simp; omega))
  have lP3 := hLP3.cells2
  have yP3 := hLP3.lt
  have hLP4 : Loc _ (w.heap.size + 2) _ _ := (Loc.new _ (by simp) _ _).below hbw1 (by first | omega | (simp; done) | (simp; omega))
  have lP4 := hLP4.cells2
  have yP4 := hLP4.lt
  replace hB := below_th (below_al (below_al (below_al hB _) _) _) hbw1
  go_wp2_with fail
  refine (szTbl_ok' (h2_0.below hB) (by omega) (by omega)).mono ?_
  rintro e w2 ⟨rfl, hbw2⟩
  have zw2 : w1.heap.size ≤ w2.heap.size := hbw2.size
  replace hLP0 := hLP0.below hbw2 hLP0.lt
  replace lP0 := hLP0.cells2
  replace yP0 := hLP0.lt
  replace hLP3 := hLP3.below hbw2 hLP3.lt
  replace lP3 := hLP3.cells2
  replace yP3 := hLP3.lt
  replace hLP4 := hLP4.below hbw2 hLP4.lt
  replace lP4 := hLP4.cells2
  replace yP4 := hLP4.lt
  replace hB := below_th hB hbw2
  go_wp2_with fail
  refine (szBraid_no' (h3_1.below hB) (by omega) (by omega) (by omega) (by omega)).mono ?_
  rintro e w3 ⟨rfl, hbw3⟩
  have zw3 : w2.heap.size ≤ w3.heap.size := hbw3.size
  replace hLP0 := hLP0.below hbw3 hLP0.lt
  replace lP0 := hLP0.cells2
  replace yP0 := hLP0.lt
  replace hLP3 := hLP3.below hbw3 hLP3.lt
  replace lP3 := hLP3.cells2
  replace yP3 := hLP3.lt
  replace hLP4 := hLP4.below hbw3 hLP4.lt
  replace lP4 := hLP4.cells2
  replace yP4 := hLP4.lt
  replace hB := below_th hB hbw3
  go_wp2
  go_ret
  exact ⟨rfl, hB⟩

set_option maxHeartbeats 2000000 in
theorem law_Hs_big3 (w : World) (a_0 : Option Addr) (n_0 : Nat) (c_0 : Nat) (xss_0 : List (List Int)) (a'_0 : Option Addr) (n'_0 : Nat) (c'_0 : Nat) (yss_0 : List (List Int)) (x_1 : Int) (a_2 : Option Addr) (n_2 : Nat) (c_2 : Nat) (xss_2 : List (List Int)) (s_3 : Int) (a_3 : Option Addr) (n_3 : Nat) (c_3 : Nat) (xs_3 : List Int) (s_4 : Int) (a_4 : Option Addr) (n_4 : Nat) (c_4 : Nat) (xs_4 : List Int) (h0_0 : Sol w a_0 n_0 xss_0 a'_0 n'_0 yss_0) (h0_1 : n_0 ≤ 9223372036854775807 ∧ n'_0 ≤ 9223372036854775807) (h1_0 : I64 x_1) (h2_0 : Tbl w a_2 n_2 xss_2) (h2_1 : n_2 ≤ 9223372036854775807) (h3_0 : I64 s_3) (h3_1 : Row w a_3 n_3 xs_3) (h3_2 : n_3 ≤ 9223372036854775807) (h3_3 : I64s xs_3) (h4_0 : I64 s_4) (h4_1 : Row w a_4 n_4 xs_4) (h4_2 : n_4 ≤ 9223372036854775807) (h4_3 : I64s xs_4)  (hpre : (n_0 + tot xss_0 + n'_0 + tot yss_0) + (n_2 + tot xss_2) + (n_3) ≤ 1048576) (hbig : 1048576 < (n_0 + tot xss_0 + n'_0 + tot yss_0) + (n_2 + tot xss_2) + (n_3) + (n_4)) : Calls Try.prog 9 #[sAgg a_0 n_0 c_0 a'_0 n'_0 c'_0, .int .i64 x_1, .slice a_2 n_2 c_2, bAgg s_3 a_3 n_3 c_3, bAgg s_4 a_4 n_4 c_4] w fun e w' => e = .returned (.bool true) ∧ Below w.heap.size w w' := by
  go_enter Try.func9, Try.ntmps9
  have hB : Below w.heap.size w w := Below.refl _ _
  go_wp2_with fail
  refine (szSol_ok' ((((h0_0.below hB).alloc _).alloc _).alloc _) (by omega) (by omega)).mono ?_
  rintro e w1 ⟨rfl, hbw1⟩
  have zw1 : w.heap.size + 3 ≤ w1.heap.size := by have := hbw1.size; simpa using this
  have hLP0 : Loc _ (w.heap.size) _ _ := (((Loc.new _ (by simp) _ _).alloc _).alloc _).below hbw1 (by first | omega | (simp; done) | (simp; omega))
  have lP0 := hLP0.cells2
  have yP0 := hLP0.lt
  have hLP3 : Loc _ (w.heap.size + 1) _ _ := ((Loc.new _ (by simp) _ _).alloc _).below hbw1 (by first | omega | (simp; done) | (simp; omega))
  have lP3 := hLP3.cells2
  have yP3 := hLP3.lt
  have hLP4 : Loc _ (w.heap.size + 2) _ _ := (Loc.new _ (by simp) _ _).below hbw1 (by first | omega | (simp; done) | (simp; omega))
  have lP4 := hLP4.cells2
  have yP4 := hLP4.lt
  replace hB := below_th (below_al (below_al (below_al hB _) _) _) hbw1
  go_wp2_with fail
  refine (szTbl_ok' (h2_0.below hB) (by omega) (by omega)).mono ?_
  rintro e w2 ⟨rfl, hbw2⟩
  have zw2 : w1.heap.size ≤ w2.heap.size := hbw2.size
  replace hLP0 := hLP0.below hbw2 hLP0.lt
  replace lP0 := hLP0.cells2
  replace yP0 := hLP0.lt
  replace hLP3 := hLP3.below hbw2 hLP3.lt
  replace lP3 := hLP3.cells2
  replace yP3 := hLP3.lt
  replace hLP4 := hLP4.below hbw2 hLP4.lt
  replace lP4 := hLP4.cells2
  replace yP4 := hLP4.lt
  replace hB := below_th hB hbw2
  go_wp2_with fail
  refine (szBraid_ok' (h3_1.below hB) (by omega) (by omega)).mono ?_
  rintro e w3 ⟨rfl, hbw3⟩
  have zw3 : w2.heap.size ≤ w3.heap.size := hbw3.size
  replace hLP0 := hLP0.below hbw3 hLP0.lt
  replace lP0 := hLP0.cells2
  replace yP0 := hLP0.lt
  replace hLP3 := hLP3.below hbw3 hLP3.lt
  replace lP3 := hLP3.cells2
  replace yP3 := hLP3.lt
  replace hLP4 := hLP4.below hbw3 hLP4.lt
  replace lP4 := hLP4.cells2
  replace yP4 := hLP4.lt
  replace hB := below_th hB hbw3
  go_wp2_with fail
  refine (szBraid_no' (h4_1.below hB) (by omega) (by omega) (by omega) (by omega)).mono ?_
  rintro e w4 ⟨rfl, hbw4⟩
  have zw4 : w3.heap.size ≤ w4.heap.size := hbw4.size
  replace hLP0 := hLP0.below hbw4 hLP0.lt
  replace lP0 := hLP0.cells2
  replace yP0 := hLP0.lt
  replace hLP3 := hLP3.below hbw4 hLP3.lt
  replace lP3 := hLP3.cells2
  replace yP3 := hLP3.lt
  replace hLP4 := hLP4.below hbw4 hLP4.lt
  replace lP4 := hLP4.cells2
  replace yP4 := hLP4.lt
  replace hB := below_th hB hbw4
  go_wp2
  go_ret
  exact ⟨rfl, hB⟩

set_option maxHeartbeats 8000000 in
theorem law_Hs_small (w : World) (a_0 : Option Addr) (n_0 : Nat) (c_0 : Nat) (xss_0 : List (List Int)) (a'_0 : Option Addr) (n'_0 : Nat) (c'_0 : Nat) (yss_0 : List (List Int)) (x_1 : Int) (a_2 : Option Addr) (n_2 : Nat) (c_2 : Nat) (xss_2 : List (List Int)) (s_3 : Int) (a_3 : Option Addr) (n_3 : Nat) (c_3 : Nat) (xs_3 : List Int) (s_4 : Int) (a_4 : Option Addr) (n_4 : Nat) (c_4 : Nat) (xs_4 : List Int) (h0_0 : Sol w a_0 n_0 xss_0 a'_0 n'_0 yss_0) (h0_1 : n_0 ≤ 9223372036854775807 ∧ n'_0 ≤ 9223372036854775807) (h1_0 : I64 x_1) (h2_0 : Tbl w a_2 n_2 xss_2) (h2_1 : n_2 ≤ 9223372036854775807) (h3_0 : I64 s_3) (h3_1 : Row w a_3 n_3 xs_3) (h3_2 : n_3 ≤ 9223372036854775807) (h3_3 : I64s xs_3) (h4_0 : I64 s_4) (h4_1 : Row w a_4 n_4 xs_4) (h4_2 : n_4 ≤ 9223372036854775807) (h4_3 : I64s xs_4) (hs0 : (n_0 + tot xss_0 + n'_0 + tot yss_0) + (n_2 + tot xss_2) + (n_3) + (n_4) ≤ 1048576) : Calls Try.prog 9 #[sAgg a_0 n_0 c_0 a'_0 n'_0 c'_0, .int .i64 x_1, .slice a_2 n_2 c_2, bAgg s_3 a_3 n_3 c_3, bAgg s_4 a_4 n_4 c_4] w fun e w' => e = .returned (.bool true) ∧ Below w.heap.size w w' := by
  obtain ⟨rd, code, HS, HI⟩ : ∃ (rd : Bool) (code : Int), Hid (∀ (w' : World) (a_0q : Option Addr) (c_0q : Nat) (a'_0q : Option Addr) (c'_0q : Nat) (a_2q : Option Addr) (c_2q : Nat) (a_3q : Option Addr) (c_3q : Nat) (a_4q : Option Addr) (c_4q : Nat), Sol w' a_0q n_0 xss_0 a'_0q n'_0 yss_0 → Tbl w' a_2q n_2 xss_2 → Row w' a_3q n_3 xs_3 → (n_3 ≤ c_3q ∧ c_3q ≤ 9223372036854775807) → Row w' a_4q n_4 xs_4 → (n_4 ≤ c_4q ∧ c_4q ≤ 9223372036854775807) → Calls Try.prog 41 #[sAgg a_0q n_0 c_0q a'_0q n'_0 c'_0q, .int .i64 x_1, .slice a_2q n_2 c_2q, bAgg s_3 a_3q n_3 c_3q, bAgg s_4 a_4q n_4 c_4q] w' (RetO w' rd code)) ∧ Hid (∀ (w' : World) (a_0q : Option Addr) (c_0q : Nat) (a'_0q : Option Addr) (c'_0q : Nat) (a_2q : Option Addr) (c_2q : Nat) (a_3q : Option Addr) (c_3q : Nat) (a_4q : Option Addr) (c_4q : Nat), Sol w' a_0q n_0 xss_0 a'_0q n'_0 yss_0 → Tbl w' a_2q n_2 xss_2 → Row w' a_3q n_3 xs_3 → (n_3 ≤ c_3q ∧ c_3q ≤ 9223372036854775807) → Row w' a_4q n_4 xs_4 → (n_4 ≤ c_4q ∧ c_4q ≤ 9223372036854775807) → Calls Try.prog 42 #[sAgg a_0q n_0 c_0q a'_0q n'_0 c'_0q, .int .i64 x_1, .slice a_2q n_2 c_2q, bAgg s_3 a_3q n_3 c_3q, bAgg s_4 a_4q n_4 c_4q] w' (RetO w' rd code)) :=
    ⟨_, _, Lib.hid fun w' a_0q c_0q a'_0q c'_0q a_2q c_2q a_3q c_3q a_4q c_4q r0 r2 r3 p3 r4 p4 => spec_Hs_l a_0q n_0 c_0q xss_0 a'_0q n'_0 c'_0q yss_0 x_1 a_2q n_2 c_2q xss_2 s_3 a_3q n_3 c_3q xs_3 s_4 a_4q n_4 c_4q xs_4 w' r0 h0_1 h1_0 r2 h2_1 h3_0 r3 h3_2 h3_3 p3 h4_0 r4 h4_2 h4_3 p4, Lib.hid fun w' a_0q c_0q a'_0q c'_0q a_2q c_2q a_3q c_3q a_4q c_4q r0 r2 r3 p3 r4 p4 => impl_Hs_l a_0q n_0 c_0q xss_0 a'_0q n'_0 c'_0q yss_0 x_1 a_2q n_2 c_2q xss_2 s_3 a_3q n_3 c_3q xs_3 s_4 a_4q n_4 c_4q xs_4 w' r0 h0_1 h1_0 r2 h2_1 h3_0 r3 h3_2 h3_3 p3 h4_0 r4 h4_2 h4_3 p4⟩
  have hne : (code != code) = false := by simp
  have hne0 : (rd != rd) = false := by simp
  go_enter Try.func9, Try.ntmps9
  have hB : Below w.heap.size w w := Below.refl _ _
  go_wp2_with fail
  refine (szSol_ok' ((((h0_0.below hB).alloc _).alloc _).alloc _) (by omega) (by omega)).mono ?_
  rintro e w1 ⟨rfl, hbw1⟩
  have zw1 : w.heap.size + 3 ≤ w1.heap.size := by have := hbw1.size; simpa using this
  have hLP0 : Loc _ (w.heap.size) _ _ := (((Loc.new _ (by simp) _ _).alloc _).alloc _).below hbw1 (by first | omega | (simp; done) | (simp; omega))
  have lP0 := hLP0.cells2
  have yP0 := hLP0.lt
  have hLP3 : Loc _ (w.heap.size + 1) _ _ := ((Loc.new _ (by simp) _ _).alloc _).below hbw1 (by first | omega | (simp; done) | (simp; omega))
  have lP3 := hLP3.cells2
  have yP3 := hLP3.lt
  have hLP4 : Loc _ (w.heap.size + 2) _ _ := (Loc.new _ (by simp) _ _).below hbw1 (by first | omega | (simp; done) | (simp; omega))
  have lP4 := hLP4.cells2
  have yP4 := hLP4.lt
  replace hB := below_th (below_al (below_al (below_al hB _) _) _) hbw1
  go_wp2_with fail
  refine (szTbl_ok' (h2_0.below hB) (by omega) (by omega)).mono ?_
  rintro e w2 ⟨rfl, hbw2⟩
  have zw2 : w1.heap.size ≤ w2.heap.size := hbw2.size
  replace hLP0 := hLP0.below hbw2 hLP0.lt
  replace lP0 := hLP0.cells2
  replace yP0 := hLP0.lt
  replace hLP3 := hLP3.below hbw2 hLP3.lt
  replace lP3 := hLP3.cells2
  replace yP3 := hLP3.lt
  replace hLP4 := hLP4.below hbw2 hLP4.lt
  replace lP4 := hLP4.cells2
  replace yP4 := hLP4.lt
  replace hB := below_th hB hbw2
  go_wp2_with fail
  refine (szBraid_ok' (h3_1.below hB) (by omega) (by omega)).mono ?_
  rintro e w3 ⟨rfl, hbw3⟩
  have zw3 : w2.heap.size ≤ w3.heap.size := hbw3.size
  replace hLP0 := hLP0.below hbw3 hLP0.lt
  replace lP0 := hLP0.cells2
  replace yP0 := hLP0.lt
  replace hLP3 := hLP3.below hbw3 hLP3.lt
  replace lP3 := hLP3.cells2
  replace yP3 := hLP3.lt
  replace hLP4 := hLP4.below hbw3 hLP4.lt
  replace lP4 := hLP4.cells2
  replace yP4 := hLP4.lt
  replace hB := below_th hB hbw3
  go_wp2_with fail
  refine (szBraid_ok' (h4_1.below hB) (by omega) (by omega)).mono ?_
  rintro e w4 ⟨rfl, hbw4⟩
  have zw4 : w3.heap.size ≤ w4.heap.size := hbw4.size
  replace hLP0 := hLP0.below hbw4 hLP0.lt
  replace lP0 := hLP0.cells2
  replace yP0 := hLP0.lt
  replace hLP3 := hLP3.below hbw4 hLP3.lt
  replace lP3 := hLP3.cells2
  replace yP3 := hLP3.lt
  replace hLP4 := hLP4.below hbw4 hLP4.lt
  replace lP4 := hLP4.cells2
  replace yP4 := hLP4.lt
  replace hB := below_th hB hbw4
  go_wp2_with fail
  have tok1 : True := trivial
  go_region_held3 (fun w' => (w'.cell? ⟨w.heap.size, 0, none⟩ = some (.slice a_0 n_0 c_0) ∧ w'.cell? ⟨w.heap.size, 1, none⟩ = some (.slice a'_0 n'_0 c'_0)) ∧ (w'.cell? ⟨w.heap.size + 1, 0, none⟩ = some (.int .i64 s_3) ∧ w'.cell? ⟨w.heap.size + 1, 1, none⟩ = some (.slice a_3 n_3 c_3)) ∧ (w'.cell? ⟨w.heap.size + 2, 0, none⟩ = some (.int .i64 s_4) ∧ w'.cell? ⟨w.heap.size + 2, 1, none⟩ = some (.slice a_4 n_4 c_4)))
    (first | exact ⟨⟨lP0_w9.1, lP0_w9.2.1⟩, ⟨lP3_w9.1, lP3_w9.2.1⟩, ⟨lP4_w9.1, lP4_w9.2.1⟩⟩ | exact ⟨⟨lP0_w8.1, lP0_w8.2.1⟩, ⟨lP3_w8.1, lP3_w8.2.1⟩, ⟨lP4_w8.1, lP4_w8.2.1⟩⟩ | exact ⟨⟨lP0_w7.1, lP0_w7.2.1⟩, ⟨lP3_w7.1, lP3_w7.2.1⟩, ⟨lP4_w7.1, lP4_w7.2.1⟩⟩ | exact ⟨⟨lP0_w6.1, lP0_w6.2.1⟩, ⟨lP3_w6.1, lP3_w6.2.1⟩, ⟨lP4_w6.1, lP4_w6.2.1⟩⟩ | exact ⟨⟨lP0_w5.1, lP0_w5.2.1⟩, ⟨lP3_w5.1, lP3_w5.2.1⟩, ⟨lP4_w5.1, lP4_w5.2.1⟩⟩ | exact ⟨⟨lP0.1, lP0.2.1⟩, ⟨lP3.1, lP3.2.1⟩, ⟨lP4.1, lP4.2.1⟩⟩)
    (first
      | (go_at_call 16; have _t := tok1; clear _t tok1; have tok2 : True := trivial; refine (toSol_u ((h0_0.below hB).drewN 1) (by omega)).mono ?_; rintro e w5 ⟨a_0p, c_0p, a'_0p, c'_0p, vs_p, vs'_p, rfl, hop0_w5, hbw5⟩; have zw5 : w4.heap.size ≤ w5.heap.size := hbw5.size; have hrw5 : Below w4.heap.size w4 w5 := (Below.drew (Below.refl _ _)).trans hbw5; have hLP0_w5 := hLP0.below hrw5 hLP0.lt; have lP0_w5 := hLP0_w5.cells2; have hLP3_w5 := hLP3.below hrw5 hLP3.lt; have lP3_w5 := hLP3_w5.cells2; have hLP4_w5 := hLP4.below hrw5 hLP4.lt; have lP4_w5 := hLP4_w5.cells2; have lop0 : ∀ g, SolS a_0p n_0 vs_p a'_0p n'_0 vs'_p g → w4.heap.size ≤ g := hop0_w5.uLo; have hip0 : ∀ g, SolS a_0p n_0 vs_p a'_0p n'_0 vs'_p g → g < w5.heap.size := hop0_w5.uHi)
      | (go_at_call 17; have _t := tok2; clear _t tok2; have tok3 : True := trivial; refine (toTbl_u (h2_0.below (below_th hB hrw5)) (by omega)).mono ?_; rintro e w6 ⟨a_2p, c_2p, vs_p, rfl, hop2_w6, hbw6⟩; have zw6 : w5.heap.size ≤ w6.heap.size := hbw6.size; have hrw6 : Below w4.heap.size w4 w6 := below_th hrw5 hbw6; have hLP0_w6 := hLP0.below hrw6 hLP0.lt; have lP0_w6 := hLP0_w6.cells2; have hLP3_w6 := hLP3.below hrw6 hLP3.lt; have lP3_w6 := hLP3_w6.cells2; have hLP4_w6 := hLP4.below hrw6 hLP4.lt; have lP4_w6 := hLP4_w6.cells2; have hop0_w6 := hop0_w5.below hbw6; have lop2 : ∀ g, TblS a_2p n_2 vs_p g → w5.heap.size ≤ g := hop2_w6.uLo; have hip2 : ∀ g, TblS a_2p n_2 vs_p g → g < w6.heap.size := hop2_w6.uHi)
      | (go_at_call 18; have _t := tok3; clear _t tok3; have tok4 : True := trivial; refine (toBraid_u (h3_1.below (below_th hB hrw6)) (by omega)).mono ?_; rintro e w7 ⟨a_3p, c_3p, rfl, hop3_w7, hbw7⟩; have zw7 : w6.heap.size ≤ w7.heap.size := hbw7.size; have hrw7 : Below w4.heap.size w4 w7 := below_th hrw6 hbw7; have hLP0_w7 := hLP0.below hrw7 hLP0.lt; have lP0_w7 := hLP0_w7.cells2; have hLP3_w7 := hLP3.below hrw7 hLP3.lt; have lP3_w7 := hLP3_w7.cells2; have hLP4_w7 := hLP4.below hrw7 hLP4.lt; have lP4_w7 := hLP4_w7.cells2; have hop0_w7 := hop0_w6.below hbw7; have hop2_w7 := hop2_w6.below hbw7; have cpp3 := hop3_w7.cap; have lop3 : ∀ g, RowS a_3p g → w6.heap.size ≤ g := hop3_w7.uLo; have hip3 : ∀ g, RowS a_3p g → g < w7.heap.size := hop3_w7.uHi)
      | (go_at_call 18; have _t := tok4; clear _t tok4; have tok5 : True := trivial; refine (toBraid_u (h4_1.below (below_th hB hrw7)) (by omega)).mono ?_; rintro e w8 ⟨a_4p, c_4p, rfl, hop4_w8, hbw8⟩; have zw8 : w7.heap.size ≤ w8.heap.size := hbw8.size; have hrw8 : Below w4.heap.size w4 w8 := below_th hrw7 hbw8; have hLP0_w8 := hLP0.below hrw8 hLP0.lt; have lP0_w8 := hLP0_w8.cells2; have hLP3_w8 := hLP3.below hrw8 hLP3.lt; have lP3_w8 := hLP3_w8.cells2; have hLP4_w8 := hLP4.below hrw8 hLP4.lt; have lP4_w8 := hLP4_w8.cells2; have hop0_w8 := hop0_w7.below hbw8; have hop2_w8 := hop2_w7.below hbw8; have hop3_w8 := hop3_w7.below hbw8; have cpp4 := hop4_w8.cap; have lop4 : ∀ g, RowS a_4p g → w7.heap.size ≤ g := hop4_w8.uLo; have hip4 : ∀ g, RowS a_4p g → g < w8.heap.size := hop4_w8.uHi)
      | (go_at_call 41; have _t := tok5; clear _t tok5; have tok6 : True := trivial; refine (HS.out _ _ _ _ _ _ _ _ _ _ _ hop0_w8.sol hop2_w8.tbl hop3_w8.row cpp3 hop4_w8.row cpp4).mono ?_; rintro e w9 ⟨rfl, hbw9⟩; have zw9 : w8.heap.size ≤ w9.heap.size := hbw9.size; have hrw9 : Below w4.heap.size w4 w9 := below_th hrw8 hbw9; have hLP0_w9 := hLP0.below hrw9 hLP0.lt; have lP0_w9 := hLP0_w9.cells2; have hLP3_w9 := hLP3.below hrw9 hLP3.lt; have lP3_w9 := hLP3_w9.cells2; have hLP4_w9 := hLP4.below hrw9 hLP4.lt; have lP4_w9 := hLP4_w9.cells2; have hop0_w9 := hop0_w8.below hbw9; have hop2_w9 := hop2_w8.below hbw9; have hop3_w9 := hop3_w8.below hbw9; have hop4_w9 := hop4_w8.below hbw9))
  replace hLP0 := hLP0_w9
  replace lP0 := lP0_w9
  clear hLP0_w8 lP0_w8 hLP0_w7 lP0_w7 hLP0_w6 lP0_w6 hLP0_w5 lP0_w5
  replace yP0 := hLP0.lt
  replace hLP3 := hLP3_w9
  replace lP3 := lP3_w9
  clear hLP3_w8 lP3_w8 hLP3_w7 lP3_w7 hLP3_w6 lP3_w6 hLP3_w5 lP3_w5
  replace yP3 := hLP3.lt
  replace hLP4 := hLP4_w9
  replace lP4 := lP4_w9
  clear hLP4_w8 lP4_w8 hLP4_w7 lP4_w7 hLP4_w6 lP4_w6 hLP4_w5 lP4_w5
  replace yP4 := hLP4.lt
  have hop0 := hop0_w9
  have hop2 := hop2_w9
  have hop3 := hop3_w9
  have hop4 := hop4_w9
  replace hB := below_th hB hrw9
  clear tok6
  go_wp2_with fail
  refine (toSol_u (h0_0.below hB) (by omega)).mono ?_
  rintro e w10 ⟨a_0x, c_0x, a'_0x, c'_0x, vs_x, vs'_x, rfl, hox0, hbw10⟩
  have zw10 : w9.heap.size ≤ w10.heap.size := hbw10.size
  replace hLP0 := hLP0.below hbw10 hLP0.lt
  replace lP0 := hLP0.cells2
  replace yP0 := hLP0.lt
  replace hLP3 := hLP3.below hbw10 hLP3.lt
  replace lP3 := hLP3.cells2
  replace yP3 := hLP3.lt
  replace hLP4 := hLP4.below hbw10 hLP4.lt
  replace lP4 := hLP4.cells2
  replace yP4 := hLP4.lt
  replace hB := below_th hB hbw10
  have lox0 : ∀ g, SolS a_0x n_0 vs_x a'_0x n'_0 vs'_x g → w9.heap.size ≤ g := hox0.uLo
  have hix0 : ∀ g, SolS a_0x n_0 vs_x a'_0x n'_0 vs'_x g → g < w10.heap.size := hox0.uHi
  go_wp2_with fail
  refine (toTbl_u ((h2_0.below hB).alloc _) (by omega)).mono ?_
  rintro e w11 ⟨a_2x, c_2x, vs_x, rfl, hox2, hbw11⟩
  have zw11 : w10.heap.size + 1 ≤ w11.heap.size := by have := hbw11.size; simpa using this
  replace hLP0 := (hLP0.alloc _).below hbw11 (hLP0.alloc _).lt
  replace lP0 := hLP0.cells2
  replace yP0 := hLP0.lt
  replace hLP3 := (hLP3.alloc _).below hbw11 (hLP3.alloc _).lt
  replace lP3 := hLP3.cells2
  replace yP3 := hLP3.lt
  replace hLP4 := (hLP4.alloc _).below hbw11 (hLP4.alloc _).lt
  replace lP4 := hLP4.cells2
  replace yP4 := hLP4.lt
  have hLX0 : Loc _ (w10.heap.size) _ _ := (Loc.new _ (by simp) _ _).below hbw11 (by first | omega | (simp; done) | (simp; omega))
  have lX0 := hLX0.cells2
  have yX0 := hLX0.lt
  replace hox0 := (hox0.alloc _).below hbw11
  replace hB := below_th (below_al hB _) hbw11
  have lox2 : ∀ g, TblS a_2x n_2 vs_x g → w10.heap.size + 1 ≤ g := fun g hg => by have := hox2.uLo g hg; simpa using this
  have hix2 : ∀ g, TblS a_2x n_2 vs_x g → g < w11.heap.size := hox2.uHi
  go_wp2_with fail
  refine (toBraid_u (h3_1.below hB) (by omega)).mono ?_
  rintro e w12 ⟨a_3x, c_3x, rfl, hox3, hbw12⟩
  have zw12 : w11.heap.size ≤ w12.heap.size := hbw12.size
  replace hLP0 := hLP0.below hbw12 hLP0.lt
  replace lP0 := hLP0.cells2
  replace yP0 := hLP0.lt
  replace hLP3 := hLP3.below hbw12 hLP3.lt
  replace lP3 := hLP3.cells2
  replace yP3 := hLP3.lt
  replace hLP4 := hLP4.below hbw12 hLP4.lt
  replace lP4 := hLP4.cells2
  replace yP4 := hLP4.lt
  replace hLX0 := hLX0.below hbw12 hLX0.lt
  replace lX0 := hLX0.cells2
  replace yX0 := hLX0.lt
  replace hox0 := hox0.below hbw12
  replace hox2 := hox2.below hbw12
  replace hB := below_th hB hbw12
  have lox3 : ∀ g, RowS a_3x g → w11.heap.size ≤ g := hox3.uLo
  have hix3 : ∀ g, RowS a_3x g → g < w12.heap.size := hox3.uHi
  go_wp2_with fail
  refine (toBraid_u ((h4_1.below hB).alloc _) (by omega)).mono ?_
  rintro e w13 ⟨a_4x, c_4x, rfl, hox4, hbw13⟩
  have zw13 : w12.heap.size + 1 ≤ w13.heap.size := by have := hbw13.size; simpa using this
  replace hLP0 := (hLP0.alloc _).below hbw13 (hLP0.alloc _).lt
  replace lP0 := hLP0.cells2
  replace yP0 := hLP0.lt
  replace hLP3 := (hLP3.alloc _).below hbw13 (hLP3.alloc _).lt
  replace lP3 := hLP3.cells2
  replace yP3 := hLP3.lt
  replace hLP4 := (hLP4.alloc _).below hbw13 (hLP4.alloc _).lt
  replace lP4 := hLP4.cells2
  replace yP4 := hLP4.lt
  replace hLX0 := (hLX0.alloc _).below hbw13 (hLX0.alloc _).lt
  replace lX0 := hLX0.cells2
  replace yX0 := hLX0.lt
  have hLX3 : Loc _ (w12.heap.size) _ _ := (Loc.new _ (by simp) _ _).below hbw13 (by first | omega | (simp; done) | (simp; omega))
  have lX3 := hLX3.cells2
  have yX3 := hLX3.lt
  replace hox0 := (hox0.alloc _).below hbw13
  replace hox2 := (hox2.alloc _).below hbw13
  replace hox3 := (hox3.alloc _).below hbw13
  replace hB := below_th (below_al hB _) hbw13
  have lox4 : ∀ g, RowS a_4x g → w12.heap.size + 1 ≤ g := fun g hg => by have := hox4.uLo g hg; simpa using this
  have hix4 : ∀ g, RowS a_4x g → g < w13.heap.size := hox4.uHi
  go_wp2_with fail
  refine (HI.out _ _ _ _ _ _ _ _ _ _ _ ((hox0.alloc _).sol) ((hox2.alloc _).tbl) ((hox3.alloc _).row) hox3.cap ((hox4.alloc _).row) hox4.cap).mono ?_
  rintro e w14 ⟨rfl, hbw14⟩
  have zw14 : w13.heap.size + 1 ≤ w14.heap.size := by have := hbw14.size; simpa using this
  replace hLP0 := (hLP0.alloc _).below hbw14 (hLP0.alloc _).lt
  replace lP0 := hLP0.cells2
  replace yP0 := hLP0.lt
  replace hLP3 := (hLP3.alloc _).below hbw14 (hLP3.alloc _).lt
  replace lP3 := hLP3.cells2
  replace yP3 := hLP3.lt
  replace hLP4 := (hLP4.alloc _).below hbw14 (hLP4.alloc _).lt
  replace lP4 := hLP4.cells2
  replace yP4 := hLP4.lt
  replace hLX0 := (hLX0.alloc _).below hbw14 (hLX0.alloc _).lt
  replace lX0 := hLX0.cells2
  replace yX0 := hLX0.lt
  replace hLX3 := (hLX3.alloc _).below hbw14 (hLX3.alloc _).lt
  replace lX3 := hLX3.cells2
  replace yX3 := hLX3.lt
  have hLX4 : Loc _ (w13.heap.size) _ _ := (Loc.new _ (by simp) _ _).below hbw14 (by first | omega | (simp; done) | (simp; omega))
  have lX4 := hLX4.cells2
  have yX4 := hLX4.lt
  replace hox0 := (hox0.alloc _).below hbw14
  replace hox2 := (hox2.alloc _).below hbw14
  replace hox3 := (hox3.alloc _).below hbw14
  replace hox4 := (hox4.alloc _).below hbw14
  replace hB := below_th (below_al hB _) hbw14
  go_wp2_with fail
  have tok1 : True := trivial
  go_region_held3 (fun w' => (w'.cell? ⟨w.heap.size, 0, none⟩ = some (.slice a_0 n_0 c_0) ∧ w'.cell? ⟨w.heap.size, 1, none⟩ = some (.slice a'_0 n'_0 c'_0)) ∧ (w'.cell? ⟨w10.heap.size, 0, none⟩ = some (.slice a_0x n_0 c_0x) ∧ w'.cell? ⟨w10.heap.size, 1, none⟩ = some (.slice a'_0x n'_0 c'_0x)))
    (first | exact ⟨⟨lP0_w16.1, lP0_w16.2.1⟩, ⟨lX0_w16.1, lX0_w16.2.1⟩⟩ | exact ⟨⟨lP0_w15.1, lP0_w15.2.1⟩, ⟨lX0_w15.1, lX0_w15.2.1⟩⟩ | exact ⟨⟨lP0.1, lP0.2.1⟩, ⟨lX0.1, lX0.2.1⟩⟩)
    (first
      | (go_at_call 16; have _t := tok1; clear _t tok1; have tok2 : True := trivial; refine (toSol_u ((h0_0.below hB).drewN 1) (by omega)).mono ?_; rintro e w15 ⟨a_0y, c_0y, a'_0y, c'_0y, vs_y, vs'_y, rfl, hoy0_w15, hbw15⟩; have zw15 : w14.heap.size ≤ w15.heap.size := hbw15.size; have hrw15 : Below w14.heap.size w14 w15 := (Below.drew (Below.refl _ _)).trans hbw15; have hLP0_w15 := hLP0.below hrw15 hLP0.lt; have lP0_w15 := hLP0_w15.cells2; have hLX0_w15 := hLX0.below hrw15 hLX0.lt; have lX0_w15 := hLX0_w15.cells2; have loy0 : ∀ g, SolS a_0y n_0 vs_y a'_0y n'_0 vs'_y g → w14.heap.size ≤ g := hoy0_w15.uLo; have hiy0 : ∀ g, SolS a_0y n_0 vs_y a'_0y n'_0 vs'_y g → g < w15.heap.size := hoy0_w15.uHi)
      | (go_at_call 21; have _t := tok2; clear _t tok2; have tok3 : True := trivial; refine (eqSol_u (hox0.below hrw15).sol hoy0_w15.sol (by omega)).mono ?_; rintro e w16 ⟨rfl, hbw16⟩; have zw16 : w15.heap.size ≤ w16.heap.size := hbw16.size; have hrw16 : Below w14.heap.size w14 w16 := below_th hrw15 hbw16; have hLP0_w16 := hLP0.below hrw16 hLP0.lt; have lP0_w16 := hLP0_w16.cells2; have hLX0_w16 := hLX0.below hrw16 hLX0.lt; have lX0_w16 := hLX0_w16.cells2; have hoy0_w16 := hoy0_w15.below hbw16))
  replace hLP0 := hLP0_w16
  replace lP0 := lP0_w16
  clear hLP0_w15 lP0_w15
  replace yP0 := hLP0.lt
  replace hLP3 := hLP3.below hrw16 hLP3.lt
  replace lP3 := hLP3.cells2
  replace yP3 := hLP3.lt
  replace hLP4 := hLP4.below hrw16 hLP4.lt
  replace lP4 := hLP4.cells2
  replace yP4 := hLP4.lt
  replace hLX0 := hLX0_w16
  replace lX0 := lX0_w16
  clear hLX0_w15 lX0_w15
  replace yX0 := hLX0.lt
  replace hLX3 := hLX3.below hrw16 hLX3.lt
  replace lX3 := hLX3.cells2
  replace yX3 := hLX3.lt
  replace hLX4 := hLX4.below hrw16 hLX4.lt
  replace lX4 := hLX4.cells2
  replace yX4 := hLX4.lt
  replace hox0 := hox0.below hrw16
  replace hox2 := hox2.below hrw16
  replace hox3 := hox3.below hrw16
  replace hox4 := hox4.below hrw16
  have hoy0 := hoy0_w16
  replace hB := below_th hB hrw16
  clear tok3
  go_wp2_with fail
  refine (toTbl_u (h2_0.below hB) (by omega)).mono ?_
  rintro e w17 ⟨a_2y, c_2y, vs_y, rfl, hoy2, hbw17⟩
  have zw17 : w16.heap.size ≤ w17.heap.size := hbw17.size
  replace hLP0 := hLP0.below hbw17 hLP0.lt
  replace lP0 := hLP0.cells2
  replace yP0 := hLP0.lt
  replace hLP3 := hLP3.below hbw17 hLP3.lt
  replace lP3 := hLP3.cells2
  replace yP3 := hLP3.lt
  replace hLP4 := hLP4.below hbw17 hLP4.lt
  replace lP4 := hLP4.cells2
  replace yP4 := hLP4.lt
  replace hLX0 := hLX0.below hbw17 hLX0.lt
  replace lX0 := hLX0.cells2
  replace yX0 := hLX0.lt
  replace hLX3 := hLX3.below hbw17 hLX3.lt
  replace lX3 := hLX3.cells2
  replace yX3 := hLX3.lt
  replace hLX4 := hLX4.below hbw17 hLX4.lt
  replace lX4 := hLX4.cells2
  replace yX4 := hLX4.lt
  replace hox0 := hox0.below hbw17
  replace hox2 := hox2.below hbw17
  replace hox3 := hox3.below hbw17
  replace hox4 := hox4.below hbw17
  replace hB := below_th hB hbw17
  have loy2 : ∀ g, TblS a_2y n_2 vs_y g → w16.heap.size ≤ g := hoy2.uLo
  have hiy2 : ∀ g, TblS a_2y n_2 vs_y g → g < w17.heap.size := hoy2.uHi
  go_wp2_with fail
  refine (eqTbl_u (hox2.tbl) (hoy2.tbl) (by omega)).mono ?_
  rintro e w18 ⟨rfl, hbw18⟩
  have zw18 : w17.heap.size ≤ w18.heap.size := hbw18.size
  replace hLP0 := hLP0.below hbw18 hLP0.lt
  replace lP0 := hLP0.cells2
  replace yP0 := hLP0.lt
  replace hLP3 := hLP3.below hbw18 hLP3.lt
  replace lP3 := hLP3.cells2
  replace yP3 := hLP3.lt
  replace hLP4 := hLP4.below hbw18 hLP4.lt
  replace lP4 := hLP4.cells2
  replace yP4 := hLP4.lt
  replace hLX0 := hLX0.below hbw18 hLX0.lt
  replace lX0 := hLX0.cells2
  replace yX0 := hLX0.lt
  replace hLX3 := hLX3.below hbw18 hLX3.lt
  replace lX3 := hLX3.cells2
  replace yX3 := hLX3.lt
  replace hLX4 := hLX4.below hbw18 hLX4.lt
  replace lX4 := hLX4.cells2
  replace yX4 := hLX4.lt
  replace hox0 := hox0.below hbw18
  replace hox2 := hox2.below hbw18
  replace hox3 := hox3.below hbw18
  replace hox4 := hox4.below hbw18
  replace hoy2 := hoy2.below hbw18
  replace hB := below_th hB hbw18
  go_wp2_with fail
  have tok1 : True := trivial
  go_region_held3 (fun w' => (w'.cell? ⟨w.heap.size + 1, 0, none⟩ = some (.int .i64 s_3) ∧ w'.cell? ⟨w.heap.size + 1, 1, none⟩ = some (.slice a_3 n_3 c_3)) ∧ (w'.cell? ⟨w12.heap.size, 0, none⟩ = some (.int .i64 s_3) ∧ w'.cell? ⟨w12.heap.size, 1, none⟩ = some (.slice a_3x n_3 c_3x)))
    (first | exact ⟨⟨lP3_w20.1, lP3_w20.2.1⟩, ⟨lX3_w20.1, lX3_w20.2.1⟩⟩ | exact ⟨⟨lP3_w19.1, lP3_w19.2.1⟩, ⟨lX3_w19.1, lX3_w19.2.1⟩⟩ | exact ⟨⟨lP3.1, lP3.2.1⟩, ⟨lX3.1, lX3.2.1⟩⟩)
    (first
      | (go_at_call 18; have _t := tok1; clear _t tok1; have tok2 : True := trivial; refine (toBraid_u ((h3_1.below hB).drewN 1) (by omega)).mono ?_; rintro e w19 ⟨a_3y, c_3y, rfl, hoy3_w19, hbw19⟩; have zw19 : w18.heap.size ≤ w19.heap.size := hbw19.size; have hrw19 : Below w18.heap.size w18 w19 := (Below.drew (Below.refl _ _)).trans hbw19; have hLP3_w19 := hLP3.below hrw19 hLP3.lt; have lP3_w19 := hLP3_w19.cells2; have hLX3_w19 := hLX3.below hrw19 hLX3.lt; have lX3_w19 := hLX3_w19.cells2; have cpy3 := hoy3_w19.cap; have loy3 : ∀ g, RowS a_3y g → w18.heap.size ≤ g := hoy3_w19.uLo; have hiy3 : ∀ g, RowS a_3y g → g < w19.heap.size := hoy3_w19.uHi)
      | (go_at_call 23; have _t := tok2; clear _t tok2; have tok3 : True := trivial; refine (eqBraid_u (hox3.below hrw19).row hoy3_w19.row (by omega)).mono ?_; rintro e w20 ⟨rfl, hbw20⟩; have zw20 : w19.heap.size ≤ w20.heap.size := hbw20.size; have hrw20 : Below w18.heap.size w18 w20 := below_th hrw19 hbw20; have hLP3_w20 := hLP3.below hrw20 hLP3.lt; have lP3_w20 := hLP3_w20.cells2; have hLX3_w20 := hLX3.below hrw20 hLX3.lt; have lX3_w20 := hLX3_w20.cells2; have hoy3_w20 := hoy3_w19.below hbw20))
  replace hLP0 := hLP0.below hrw20 hLP0.lt
  replace lP0 := hLP0.cells2
  replace yP0 := hLP0.lt
  replace hLP3 := hLP3_w20
  replace lP3 := lP3_w20
  clear hLP3_w19 lP3_w19
  replace yP3 := hLP3.lt
  replace hLP4 := hLP4.below hrw20 hLP4.lt
  replace lP4 := hLP4.cells2
  replace yP4 := hLP4.lt
  replace hLX0 := hLX0.below hrw20 hLX0.lt
  replace lX0 := hLX0.cells2
  replace yX0 := hLX0.lt
  replace hLX3 := hLX3_w20
  replace lX3 := lX3_w20
  clear hLX3_w19 lX3_w19
  replace yX3 := hLX3.lt
  replace hLX4 := hLX4.below hrw20 hLX4.lt
  replace lX4 := hLX4.cells2
  replace yX4 := hLX4.lt
  replace hox0 := hox0.below hrw20
  replace hox2 := hox2.below hrw20
  replace hox3 := hox3.below hrw20
  replace hox4 := hox4.below hrw20
  have hoy3 := hoy3_w20
  replace hB := below_th hB hrw20
  clear tok3
  go_wp2_with fail
  have tok1 : True := trivial
  go_region_held3 (fun w' => (w'.cell? ⟨w.heap.size + 2, 0, none⟩ = some (.int .i64 s_4) ∧ w'.cell? ⟨w.heap.size + 2, 1, none⟩ = some (.slice a_4 n_4 c_4)) ∧ (w'.cell? ⟨w13.heap.size, 0, none⟩ = some (.int .i64 s_4) ∧ w'.cell? ⟨w13.heap.size, 1, none⟩ = some (.slice a_4x n_4 c_4x)))
    (first | exact ⟨⟨lP4_w22.1, lP4_w22.2.1⟩, ⟨lX4_w22.1, lX4_w22.2.1⟩⟩ | exact ⟨⟨lP4_w21.1, lP4_w21.2.1⟩, ⟨lX4_w21.1, lX4_w21.2.1⟩⟩ | exact ⟨⟨lP4.1, lP4.2.1⟩, ⟨lX4.1, lX4.2.1⟩⟩)
    (first
      | (go_at_call 18; have _t := tok1; clear _t tok1; have tok2 : True := trivial; refine (toBraid_u ((h4_1.below hB).drewN 1) (by omega)).mono ?_; rintro e w21 ⟨a_4y, c_4y, rfl, hoy4_w21, hbw21⟩; have zw21 : w20.heap.size ≤ w21.heap.size := hbw21.size; have hrw21 : Below w20.heap.size w20 w21 := (Below.drew (Below.refl _ _)).trans hbw21; have hLP4_w21 := hLP4.below hrw21 hLP4.lt; have lP4_w21 := hLP4_w21.cells2; have hLX4_w21 := hLX4.below hrw21 hLX4.lt; have lX4_w21 := hLX4_w21.cells2; have cpy4 := hoy4_w21.cap; have loy4 : ∀ g, RowS a_4y g → w20.heap.size ≤ g := hoy4_w21.uLo; have hiy4 : ∀ g, RowS a_4y g → g < w21.heap.size := hoy4_w21.uHi)
      | (go_at_call 23; have _t := tok2; clear _t tok2; have tok3 : True := trivial; refine (eqBraid_u (hox4.below hrw21).row hoy4_w21.row (by omega)).mono ?_; rintro e w22 ⟨rfl, hbw22⟩; have zw22 : w21.heap.size ≤ w22.heap.size := hbw22.size; have hrw22 : Below w20.heap.size w20 w22 := below_th hrw21 hbw22; have hLP4_w22 := hLP4.below hrw22 hLP4.lt; have lP4_w22 := hLP4_w22.cells2; have hLX4_w22 := hLX4.below hrw22 hLX4.lt; have lX4_w22 := hLX4_w22.cells2; have hoy4_w22 := hoy4_w21.below hbw22))
  replace hLP0 := hLP0.below hrw22 hLP0.lt
  replace lP0 := hLP0.cells2
  replace yP0 := hLP0.lt
  replace hLP3 := hLP3.below hrw22 hLP3.lt
  replace lP3 := hLP3.cells2
  replace yP3 := hLP3.lt
  replace hLP4 := hLP4_w22
  replace lP4 := lP4_w22
  clear hLP4_w21 lP4_w21
  replace yP4 := hLP4.lt
  replace hLX0 := hLX0.below hrw22 hLX0.lt
  replace lX0 := hLX0.cells2
  replace yX0 := hLX0.lt
  replace hLX3 := hLX3.below hrw22 hLX3.lt
  replace lX3 := hLX3.cells2
  replace yX3 := hLX3.lt
  replace hLX4 := hLX4_w22
  replace lX4 := lX4_w22
  clear hLX4_w21 lX4_w21
  replace yX4 := hLX4.lt
  replace hox0 := hox0.below hrw22
  replace hox2 := hox2.below hrw22
  replace hox3 := hox3.below hrw22
  replace hox4 := hox4.below hrw22
  have hoy4 := hoy4_w22
  replace hB := below_th hB hrw22
  clear tok3
  go_wp2_with fail
  go_ret
  exact ⟨rfl, hB⟩

theorem law_Hs (w : World) (a_0 : Option Addr) (n_0 : Nat) (c_0 : Nat) (xss_0 : List (List Int)) (a'_0 : Option Addr) (n'_0 : Nat) (c'_0 : Nat) (yss_0 : List (List Int)) (h0_0 : Sol w a_0 n_0 xss_0 a'_0 n'_0 yss_0) (h0_1 : n_0 ≤ 9223372036854775807 ∧ n'_0 ≤ 9223372036854775807) (x_1 : Int) (h1_0 : I64 x_1) (a_2 : Option Addr) (n_2 : Nat) (c_2 : Nat) (xss_2 : List (List Int)) (h2_0 : Tbl w a_2 n_2 xss_2) (h2_1 : n_2 ≤ 9223372036854775807) (s_3 : Int) (a_3 : Option Addr) (n_3 : Nat) (c_3 : Nat) (xs_3 : List Int) (h3_0 : I64 s_3) (h3_1 : Row w a_3 n_3 xs_3) (h3_2 : n_3 ≤ 9223372036854775807) (h3_3 : I64s xs_3) (s_4 : Int) (a_4 : Option Addr) (n_4 : Nat) (c_4 : Nat) (xs_4 : List Int) (h4_0 : I64 s_4) (h4_1 : Row w a_4 n_4 xs_4) (h4_2 : n_4 ≤ 9223372036854775807) (h4_3 : I64s xs_4) : Calls Try.prog 9 #[sAgg a_0 n_0 c_0 a'_0 n'_0 c'_0, .int .i64 x_1, .slice a_2 n_2 c_2, bAgg s_3 a_3 n_3 c_3, bAgg s_4 a_4 n_4 c_4] w fun e w' => e = .returned (.bool true) ∧ Below w.heap.size w w' := by
  refine (Classical.em ((n_0 + tot xss_0 + n'_0 + tot yss_0) ≤ 1048576)).elim (fun c0 => ?_) (fun c0 => law_Hs_big0 w a_0 n_0 c_0 xss_0 a'_0 n'_0 c'_0 yss_0 x_1 a_2 n_2 c_2 xss_2 s_3 a_3 n_3 c_3 xs_3 s_4 a_4 n_4 c_4 xs_4 h0_0 h0_1 h1_0 h2_0 h2_1 h3_0 h3_1 h3_2 h3_3 h4_0 h4_1 h4_2 h4_3  (by omega))
  refine (Classical.em ((n_0 + tot xss_0 + n'_0 + tot yss_0) + (n_2 + tot xss_2) ≤ 1048576)).elim (fun c1 => ?_) (fun c1 => law_Hs_big1 w a_0 n_0 c_0 xss_0 a'_0 n'_0 c'_0 yss_0 x_1 a_2 n_2 c_2 xss_2 s_3 a_3 n_3 c_3 xs_3 s_4 a_4 n_4 c_4 xs_4 h0_0 h0_1 h1_0 h2_0 h2_1 h3_0 h3_1 h3_2 h3_3 h4_0 h4_1 h4_2 h4_3  c0 (by omega))
  refine (Classical.em ((n_0 + tot xss_0 + n'_0 + tot yss_0) + (n_2 + tot xss_2) + (n_3) ≤ 1048576)).elim (fun c2 => ?_) (fun c2 => law_Hs_big2 w a_0 n_0 c_0 xss_0 a'_0 n'_0 c'_0 yss_0 x_1 a_2 n_2 c_2 xss_2 s_3 a_3 n_3 c_3 xs_3 s_4 a_4 n_4 c_4 xs_4 h0_0 h0_1 h1_0 h2_0 h2_1 h3_0 h3_1 h3_2 h3_3 h4_0 h4_1 h4_2 h4_3  c1 (by omega))
  refine (Classical.em ((n_0 + tot xss_0 + n'_0 + tot yss_0) + (n_2 + tot xss_2) + (n_3) + (n_4) ≤ 1048576)).elim (fun c3 => ?_) (fun c3 => law_Hs_big3 w a_0 n_0 c_0 xss_0 a'_0 n'_0 c'_0 yss_0 x_1 a_2 n_2 c_2 xss_2 s_3 a_3 n_3 c_3 xs_3 s_4 a_4 n_4 c_4 xs_4 h0_0 h0_1 h1_0 h2_0 h2_1 h3_0 h3_1 h3_2 h3_3 h4_0 h4_1 h4_2 h4_3  c2 (by omega))
  exact law_Hs_small w a_0 n_0 c_0 xss_0 a'_0 n'_0 c'_0 yss_0 x_1 a_2 n_2 c_2 xss_2 s_3 a_3 n_3 c_3 xs_3 s_4 a_4 n_4 c_4 xs_4 h0_0 h0_1 h1_0 h2_0 h2_1 h3_0 h3_1 h3_2 h3_3 h4_0 h4_1 h4_2 h4_3  c3

end Go.Proofs.Ytfmcaflefiapoaa
