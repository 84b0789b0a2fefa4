/-
  The walk of the law of IsDesk: it answers true.
  No condition.
-/
import Derived.Test.YthkpdodhkgdiaaaIsD
import Derived.Test.YthkpdodhkgdiaaaUDS
import Derived.Test.YthkpdodhkgdiaaaOpen
import Derived.Deep.RegionHeld3
namespace Go.Proofs.Ythkpdodhkgdiaaa
set_option maxRecDepth 100000
set_option linter.unusedVariables false
set_option linter.unusedSimpArgs false
open Go.RowKit

set_option maxHeartbeats 2000000 in
theorem law_IsD_big0 (w : World) (a_0 : Option Addr) (n_0 : Nat) (c_0 : Nat) (xss_0 : List (List Int)) (a'_0 : Option Addr) (n'_0 : Nat) (c'_0 : Nat) (yss_0 : List (List Int)) (ar_0 : Option Addr) (nr_0 : Nat) (cr_0 : Nat) (zss_0 : List (List Int)) (s_0 : Int) (ab_0 : Option Addr) (nb_0 : Nat) (cb_0 : Nat) (ws_0 : List Int) (h0_0 : Dsk w a_0 n_0 xss_0 a'_0 n'_0 yss_0 ar_0 nr_0 zss_0 ab_0 nb_0 ws_0) (h0_1 : (n_0 ≤ 9223372036854775807 ∧ n'_0 ≤ 9223372036854775807) ∧ nr_0 ≤ 9223372036854775807 ∧ nb_0 ≤ 9223372036854775807) (h0_2 : I64 s_0) (h0_3 : I64s ws_0)  (hbig : 1048576 < (n_0 + tot xss_0 + n'_0 + tot yss_0 + (nr_0 + tot zss_0) + nb_0)) : Calls Try.prog 12 #[dAgg a_0 n_0 c_0 a'_0 n'_0 c'_0 ar_0 nr_0 cr_0 s_0 ab_0 nb_0 cb_0] w fun e w' => e = .returned (.bool true) ∧ Below w.heap.size w w' := by
  go_enter Try.func12, Try.ntmps12
  have hB : Below w.heap.size w w := Below.refl _ _
  go_wp2_with fail
  refine (szDesk_no' ((h0_0.below hB).alloc _) (by omega) (by omega) (by omega) (by omega)).mono ?_
  rintro e w1 ⟨rfl, hbw1⟩
  have zw1 : w.heap.size + 1 ≤ w1.heap.size := by have := hbw1.size; simpa using this
  have hLP0 : Loc _ (w.heap.size) _ _ := (Loc.new _ (by simp) _ _).below hbw1 (by first | omega | (simp; done) | (simp; omega))
  have lP0 := hLP0.cells5
  have yP0 := hLP0.lt
  replace hB := below_th (below_al hB _) hbw1
  go_wp2
  go_ret
  exact ⟨rfl, hB⟩

set_option maxHeartbeats 8000000 in
theorem law_IsD_small (w : World) (a_0 : Option Addr) (n_0 : Nat) (c_0 : Nat) (xss_0 : List (List Int)) (a'_0 : Option Addr) (n'_0 : Nat) (c'_0 : Nat) (yss_0 : List (List Int)) (ar_0 : Option Addr) (nr_0 : Nat) (cr_0 : Nat) (zss_0 : List (List Int)) (s_0 : Int) (ab_0 : Option Addr) (nb_0 : Nat) (cb_0 : Nat) (ws_0 : List Int) (h0_0 : Dsk w a_0 n_0 xss_0 a'_0 n'_0 yss_0 ar_0 nr_0 zss_0 ab_0 nb_0 ws_0) (h0_1 : (n_0 ≤ 9223372036854775807 ∧ n'_0 ≤ 9223372036854775807) ∧ nr_0 ≤ 9223372036854775807 ∧ nb_0 ≤ 9223372036854775807) (h0_2 : I64 s_0) (h0_3 : I64s ws_0) (hs0 : (n_0 + tot xss_0 + n'_0 + tot yss_0 + (nr_0 + tot zss_0) + nb_0) ≤ 1048576) : Calls Try.prog 12 #[dAgg a_0 n_0 c_0 a'_0 n'_0 c'_0 ar_0 nr_0 cr_0 s_0 ab_0 nb_0 cb_0] w fun e w' => e = .returned (.bool true) ∧ Below w.heap.size w w' := by
  obtain ⟨rd, HS, HI⟩ : ∃ (rd : Bool), Hid (∀ (w' : World) (a_0q : Option Addr) (c_0q : Nat) (a'_0q : Option Addr) (c'_0q : Nat) (ar_0q : Option Addr) (cr_0q : Nat) (ab_0q : Option Addr) (cb_0q : Nat), Dsk w' a_0q n_0 xss_0 a'_0q n'_0 yss_0 ar_0q nr_0 zss_0 ab_0q nb_0 ws_0 → Calls Try.prog 59 #[dAgg a_0q n_0 c_0q a'_0q n'_0 c'_0q ar_0q nr_0 cr_0q s_0 ab_0q nb_0 cb_0q] w' (RetO0 w' rd)) ∧ Hid (∀ (w' : World) (a_0q : Option Addr) (c_0q : Nat) (a'_0q : Option Addr) (c'_0q : Nat) (ar_0q : Option Addr) (cr_0q : Nat) (ab_0q : Option Addr) (cb_0q : Nat), Dsk w' a_0q n_0 xss_0 a'_0q n'_0 yss_0 ar_0q nr_0 zss_0 ab_0q nb_0 ws_0 → Calls Try.prog 61 #[dAgg a_0q n_0 c_0q a'_0q n'_0 c'_0q ar_0q nr_0 cr_0q s_0 ab_0q nb_0 cb_0q] w' (RetO0 w' rd)) :=
    ⟨_, Lib.hid fun w' a_0q c_0q a'_0q c'_0q ar_0q cr_0q ab_0q cb_0q r0 => spec_IsD_l a_0q n_0 c_0q xss_0 a'_0q n'_0 c'_0q yss_0 ar_0q nr_0 cr_0q zss_0 s_0 ab_0q nb_0 cb_0q ws_0 w' r0 h0_1 h0_2 h0_3, Lib.hid fun w' a_0q c_0q a'_0q c'_0q ar_0q cr_0q ab_0q cb_0q r0 => impl_IsD_l a_0q n_0 c_0q xss_0 a'_0q n'_0 c'_0q yss_0 ar_0q nr_0 cr_0q zss_0 s_0 ab_0q nb_0 cb_0q ws_0 w' r0 h0_1 h0_2 h0_3⟩
  have hne0 : (rd != rd) = false := by simp
  go_enter Try.func12, Try.ntmps12
  have hB : Below w.heap.size w w := Below.refl _ _
  go_wp2_with fail
  refine (szDesk_ok' ((h0_0.below hB).alloc _) (by omega) (by omega)).mono ?_
  rintro e w1 ⟨rfl, hbw1⟩
  have zw1 : w.heap.size + 1 ≤ w1.heap.size := by have := hbw1.size; simpa using this
  have hLP0 : Loc _ (w.heap.size) _ _ := (Loc.new _ (by simp) _ _).below hbw1 (by first | omega | (simp; done) | (simp; omega))
  have lP0 := hLP0.cells5
  have yP0 := hLP0.lt
  replace hB := below_th (below_al hB _) hbw1
  go_wp2_with fail
  refine (toDesk_v (h0_0.below hB) (by omega)).mono ?_
  rintro e w2 ⟨a_0p, c_0p, a'_0p, c'_0p, ar_0p, cr_0p, ab_0p, cb_0p, vs_p, vs'_p, vsr_p, rfl, hop0, hbw2⟩
  have zw2 : w1.heap.size ≤ w2.heap.size := hbw2.size
  replace hLP0 := hLP0.below hbw2 hLP0.lt
  replace lP0 := hLP0.cells5
  replace yP0 := hLP0.lt
  replace hB := below_th hB hbw2
  have lop0 : ∀ g, DskS a_0p n_0 vs_p a'_0p n'_0 vs'_p ar_0p nr_0 vsr_p ab_0p g → w1.heap.size ≤ g := hop0.uLo
  have hip0 : ∀ g, DskS a_0p n_0 vs_p a'_0p n'_0 vs'_p ar_0p nr_0 vsr_p ab_0p g → g < w2.heap.size := hop0.uHi
  go_wp2_with fail
  refine (HS.out _ _ _ _ _ _ _ _ _ (hop0.dsk)).mono ?_
  rintro e w3 ⟨rfl, hbw3⟩
  have zw3 : w2.heap.size ≤ w3.heap.size := hbw3.size
  replace hLP0 := hLP0.below hbw3 hLP0.lt
  replace lP0 := hLP0.cells5
  replace yP0 := hLP0.lt
  replace hop0 := hop0.below hbw3
  replace hB := below_th hB hbw3
  go_wp2_with fail
  refine (toDesk_v (h0_0.below hB) (by omega)).mono ?_
  rintro e w4 ⟨a_0x, c_0x, a'_0x, c'_0x, ar_0x, cr_0x, ab_0x, cb_0x, vs_x, vs'_x, vsr_x, rfl, hox0, hbw4⟩
  have zw4 : w3.heap.size ≤ w4.heap.size := hbw4.size
  replace hLP0 := hLP0.below hbw4 hLP0.lt
  replace lP0 := hLP0.cells5
  replace yP0 := hLP0.lt
  replace hB := below_th hB hbw4
  have lox0 : ∀ g, DskS a_0x n_0 vs_x a'_0x n'_0 vs'_x ar_0x nr_0 vsr_x ab_0x g → w3.heap.size ≤ g := hox0.uLo
  have hix0 : ∀ g, DskS a_0x n_0 vs_x a'_0x n'_0 vs'_x ar_0x nr_0 vsr_x ab_0x g → g < w4.heap.size := hox0.uHi
  go_wp2_with fail
  refine (HI.out _ _ _ _ _ _ _ _ _ ((hox0.alloc _).dsk)).mono ?_
  rintro e w5 ⟨rfl, hbw5⟩
  have zw5 : w4.heap.size + 1 ≤ w5.heap.size := by have := hbw5.size; simpa using this
  replace hLP0 := (hLP0.alloc _).below hbw5 (hLP0.alloc _).lt
  replace lP0 := hLP0.cells5
  replace yP0 := hLP0.lt
  have hLX0 : Loc _ (w4.heap.size) _ _ := (Loc.new _ (by simp) _ _).below hbw5 (by first | omega | (simp; done) | (simp; omega))
  have lX0 := hLX0.cells5
  have yX0 := hLX0.lt
  replace hox0 := (hox0.alloc _).below hbw5
  replace hB := below_th (below_al hB _) hbw5
  go_wp2_with fail
  have tok1 : True := trivial
  go_region_held3 (fun w' => (w'.cell? ⟨w.heap.size, 0, none⟩ = some (.slice a_0 n_0 c_0) ∧ w'.cell? ⟨w.heap.size, 1, none⟩ = some (.slice a'_0 n'_0 c'_0) ∧ w'.cell? ⟨w.heap.size, 2, none⟩ = some (.slice ar_0 nr_0 cr_0) ∧ w'.cell? ⟨w.heap.size, 3, none⟩ = some (.int .i64 s_0) ∧ w'.cell? ⟨w.heap.size, 4, none⟩ = some (.slice ab_0 nb_0 cb_0)) ∧ (w'.cell? ⟨w4.heap.size, 0, none⟩ = some (.slice a_0x n_0 c_0x) ∧ w'.cell? ⟨w4.heap.size, 1, none⟩ = some (.slice a'_0x n'_0 c'_0x) ∧ w'.cell? ⟨w4.heap.size, 2, none⟩ = some (.slice ar_0x nr_0 cr_0x) ∧ w'.cell? ⟨w4.heap.size, 3, none⟩ = some (.int .i64 s_0) ∧ w'.cell? ⟨w4.heap.size, 4, none⟩ = some (.slice ab_0x nb_0 cb_0x)))
    (first | exact ⟨⟨lP0_w7.1, lP0_w7.2.1, lP0_w7.2.2.1, lP0_w7.2.2.2.1, lP0_w7.2.2.2.2⟩, ⟨lX0_w7.1, lX0_w7.2.1, lX0_w7.2.2.1, lX0_w7.2.2.2.1, lX0_w7.2.2.2.2⟩⟩ | exact ⟨⟨lP0_w6.1, lP0_w6.2.1, lP0_w6.2.2.1, lP0_w6.2.2.2.1, lP0_w6.2.2.2.2⟩, ⟨lX0_w6.1, lX0_w6.2.1, lX0_w6.2.2.1, lX0_w6.2.2.2.1, lX0_w6.2.2.2.2⟩⟩ | exact ⟨⟨lP0.1, lP0.2.1, lP0.2.2.1, lP0.2.2.2.1, lP0.2.2.2.2⟩, ⟨lX0.1, lX0.2.1, lX0.2.2.1, lX0.2.2.2.1, lX0.2.2.2.2⟩⟩)
    (first
      | (go_at_call 60; have _t := tok1; clear _t tok1; have tok2 : True := trivial; refine (toDesk_v ((h0_0.below hB).drewN 1) (by omega)).mono ?_; rintro e w6 ⟨a_0y, c_0y, a'_0y, c'_0y, ar_0y, cr_0y, ab_0y, cb_0y, vs_y, vs'_y, vsr_y, rfl, hoy0_w6, hbw6⟩; have zw6 : w5.heap.size ≤ w6.heap.size := hbw6.size; have hrw6 : Below w5.heap.size w5 w6 := (Below.drew (Below.refl _ _)).trans hbw6; have hLP0_w6 := hLP0.below hrw6 hLP0.lt; have lP0_w6 := hLP0_w6.cells5; have hLX0_w6 := hLX0.below hrw6 hLX0.lt; have lX0_w6 := hLX0_w6.cells5; have loy0 : ∀ g, DskS a_0y n_0 vs_y a'_0y n'_0 vs'_y ar_0y nr_0 vsr_y ab_0y g → w5.heap.size ≤ g := hoy0_w6.uLo; have hiy0 : ∀ g, DskS a_0y n_0 vs_y a'_0y n'_0 vs'_y ar_0y nr_0 vsr_y ab_0y g → g < w6.heap.size := hoy0_w6.uHi)
      | (go_at_call 24; have _t := tok2; clear _t tok2; have tok3 : True := trivial; refine (eqDesk_u (hox0.below hrw6).dsk hoy0_w6.dsk (by omega)).mono ?_; rintro e w7 ⟨rfl, hbw7⟩; have zw7 : w6.heap.size ≤ w7.heap.size := hbw7.size; have hrw7 : Below w5.heap.size w5 w7 := below_th hrw6 hbw7; have hLP0_w7 := hLP0.below hrw7 hLP0.lt; have lP0_w7 := hLP0_w7.cells5; have hLX0_w7 := hLX0.below hrw7 hLX0.lt; have lX0_w7 := hLX0_w7.cells5; have hoy0_w7 := hoy0_w6.below hbw7))
  replace hLP0 := hLP0_w7
  replace lP0 := lP0_w7
  clear hLP0_w6 lP0_w6
  replace yP0 := hLP0.lt
  replace hLX0 := hLX0_w7
  replace lX0 := lX0_w7
  clear hLX0_w6 lX0_w6
  replace yX0 := hLX0.lt
  replace hox0 := hox0.below hrw7
  have hoy0 := hoy0_w7
  replace hB := below_th hB hrw7
  clear tok3
  go_wp2_with fail
  go_ret
  exact ⟨rfl, hB⟩

theorem law_IsD (w : World) (a_0 : Option Addr) (n_0 : Nat) (c_0 : Nat) (xss_0 : List (List Int)) (a'_0 : Option Addr) (n'_0 : Nat) (c'_0 : Nat) (yss_0 : List (List Int)) (ar_0 : Option Addr) (nr_0 : Nat) (cr_0 : Nat) (zss_0 : List (List Int)) (s_0 : Int) (ab_0 : Option Addr) (nb_0 : Nat) (cb_0 : Nat) (ws_0 : List Int) (h0_0 : Dsk w a_0 n_0 xss_0 a'_0 n'_0 yss_0 ar_0 nr_0 zss_0 ab_0 nb_0 ws_0) (h0_1 : (n_0 ≤ 9223372036854775807 ∧ n'_0 ≤ 9223372036854775807) ∧ nr_0 ≤ 9223372036854775807 ∧ nb_0 ≤ 9223372036854775807) (h0_2 : I64 s_0) (h0_3 : I64s ws_0) : Calls Try.prog 12 #[dAgg a_0 n_0 c_0 a'_0 n'_0 c'_0 ar_0 nr_0 cr_0 s_0 ab_0 nb_0 cb_0] w fun e w' => e = .returned (.bool true) ∧ Below w.heap.size w w' := by
  refine (Classical.em ((n_0 + tot xss_0 + n'_0 + tot yss_0 + (nr_0 + tot zss_0) + nb_0) ≤ 1048576)).elim (fun c0 => ?_) (fun c0 => law_IsD_big0 w a_0 n_0 c_0 xss_0 a'_0 n'_0 c'_0 yss_0 ar_0 nr_0 cr_0 zss_0 s_0 ab_0 nb_0 cb_0 ws_0 h0_0 h0_1 h0_2 h0_3  (by omega))
  exact law_IsD_small w a_0 n_0 c_0 xss_0 a'_0 n'_0 c'_0 yss_0 ar_0 nr_0 cr_0 zss_0 s_0 ab_0 nb_0 cb_0 ws_0 h0_0 h0_1 h0_2 h0_3  c0

end Go.Proofs.Ythkpdodhkgdiaaa
