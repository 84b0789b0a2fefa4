/-
  The walk of the law of WeightBasis: it answers true.
  No condition.
-/
import Derived.Test.YtmncpnpjhchliaaWbZ
import Derived.Test.YtmncpnpjhchliaaBase
import Derived.Deep.RegionHeld3
namespace Go.Proofs.Ytmncpnpjhchliaa
set_option maxRecDepth 100000
set_option linter.unusedVariables false
set_option linter.unusedSimpArgs false
open Go.RowKit

set_option maxHeartbeats 2000000 in
theorem law_Wb_big0 (w : World) (a_0 : Option Addr) (n_0 : Nat) (c_0 : Nat) (xss_0 : List (List Int)) (a'_0 : Option Addr) (n'_0 : Nat) (c'_0 : Nat) (yss_0 : List (List Int)) (x_1 : Int) (h0_0 : Sol w a_0 n_0 xss_0 a'_0 n'_0 yss_0) (h0_1 : n_0 ≤ 9223372036854775807 ∧ n'_0 ≤ 9223372036854775807) (h1_0 : I64 x_1)  (hbig : 1048576 < (n_0 + tot xss_0 + n'_0 + tot yss_0)) : Calls Try.prog 3 #[sAgg a_0 n_0 c_0 a'_0 n'_0 c'_0, .int .i64 x_1] w fun e w' => e = .returned (.bool true) ∧ Below w.heap.size w w' := by
  go_enter Try.func3, Try.ntmps3
  have hB : Below w.heap.size w w := Below.refl _ _
  go_wp2_with fail
  refine (szSol_no' ((h0_0.below hB).alloc _) (by omega) (by omega) (by omega) (by omega)).mono ?_
  rintro e w1 ⟨rfl, hbw1⟩
  have zw1 : w.heap.size + 1 ≤ w1.heap.size := by have := hbw1.size; simpa using this
  have hLP0 : Loc _ (w.heap.size) _ _ := (Loc.new _ (by simp) _ _).below hbw1 (by first | omega | (simp; done) | (simp; omega))
  have lP0 := hLP0.cells2
  have yP0 := hLP0.lt
  replace hB := below_th (below_al hB _) hbw1
  go_wp2
  go_ret
  exact ⟨rfl, hB⟩

set_option maxHeartbeats 8000000 in
theorem law_Wb_small (w : World) (a_0 : Option Addr) (n_0 : Nat) (c_0 : Nat) (xss_0 : List (List Int)) (a'_0 : Option Addr) (n'_0 : Nat) (c'_0 : Nat) (yss_0 : List (List Int)) (x_1 : Int) (h0_0 : Sol w a_0 n_0 xss_0 a'_0 n'_0 yss_0) (h0_1 : n_0 ≤ 9223372036854775807 ∧ n'_0 ≤ 9223372036854775807) (h1_0 : I64 x_1) (hs0 : (n_0 + tot xss_0 + n'_0 + tot yss_0) ≤ 1048576) : Calls Try.prog 3 #[sAgg a_0 n_0 c_0 a'_0 n'_0 c'_0, .int .i64 x_1] w fun e w' => e = .returned (.bool true) ∧ Below w.heap.size w w' := by
  obtain ⟨rd0, code, hlen, HS, HI⟩ : ∃ (rd0 : List (List Int)) (code : Int), tot rd0 ≤ 1000000 ∧ Hid (∀ (w' : World) (a_0q : Option Addr) (c_0q : Nat) (a'_0q : Option Addr) (c'_0q : Nat), Sol w' a_0q n_0 xss_0 a'_0q n'_0 yss_0 → Calls Try.prog 5 #[sAgg a_0q n_0 c_0q a'_0q n'_0 c'_0q, .int .i64 x_1] w' (RetT w' rd0 code)) ∧ Hid (∀ (w' : World) (a_0q : Option Addr) (c_0q : Nat) (a'_0q : Option Addr) (c'_0q : Nat), Sol w' a_0q n_0 xss_0 a'_0q n'_0 yss_0 → Calls Try.prog 7 #[sAgg a_0q n_0 c_0q a'_0q n'_0 c'_0q, .int .i64 x_1] w' (RetT w' rd0 code)) :=
    ⟨_, _, Wb_len xss_0 yss_0 x_1, Lib.hid fun w' a_0q c_0q a'_0q c'_0q r0 => spec_Wb_l a_0q n_0 c_0q xss_0 a'_0q n'_0 c'_0q yss_0 x_1 w' r0 h0_1 h1_0, Lib.hid fun w' a_0q c_0q a'_0q c'_0q r0 => impl_Wb_l a_0q n_0 c_0q xss_0 a'_0q n'_0 c'_0q yss_0 x_1 w' r0 h0_1 h1_0⟩
  have hne : (code != code) = false := by simp
  go_enter Try.func3, Try.ntmps3
  have hB : Below w.heap.size w w := Below.refl _ _
  go_wp2_with fail
  refine (szSol_ok' ((h0_0.below hB).alloc _) (by omega) (by omega)).mono ?_
  rintro e w1 ⟨rfl, hbw1⟩
  have zw1 : w.heap.size + 1 ≤ w1.heap.size := by have := hbw1.size; simpa using this
  have hLP0 : Loc _ (w.heap.size) _ _ := (Loc.new _ (by simp) _ _).below hbw1 (by first | omega | (simp; done) | (simp; omega))
  have lP0 := hLP0.cells2
  have yP0 := hLP0.lt
  replace hB := below_th (below_al hB _) hbw1
  go_wp2_with fail
  refine (toSol_u (h0_0.below hB) (by omega)).mono ?_
  rintro e w2 ⟨a_0p, c_0p, a'_0p, c'_0p, vs_p, vs'_p, rfl, hop0, hbw2⟩
  have zw2 : w1.heap.size ≤ w2.heap.size := hbw2.size
  replace hLP0 := hLP0.below hbw2 hLP0.lt
  replace lP0 := hLP0.cells2
  replace yP0 := hLP0.lt
  replace hB := below_th hB hbw2
  have lop0 : ∀ g, SolS a_0p n_0 vs_p a'_0p n'_0 vs'_p g → w1.heap.size ≤ g := hop0.uLo
  have hip0 : ∀ g, SolS a_0p n_0 vs_p a'_0p n'_0 vs'_p g → g < w2.heap.size := hop0.uHi
  go_wp2_with fail
  refine (HS.out _ _ _ _ _ (hop0.sol)).mono ?_
  rintro e w3 ⟨aw, nw, cw, vsw, rfl, how, hbw3⟩
  have zw3 : w2.heap.size ≤ w3.heap.size := hbw3.size
  replace hLP0 := hLP0.below hbw3 hLP0.lt
  replace lP0 := hLP0.cells2
  replace yP0 := hLP0.lt
  replace hop0 := hop0.below hbw3
  replace hB := below_th hB hbw3
  have low : ∀ g, TblS aw nw vsw g → w2.heap.size ≤ g := how.uLo
  have hiw : ∀ g, TblS aw nw vsw g → g < w3.heap.size := how.uHi
  have cpw := how.cap
  go_wp2_with fail
  refine (toSol_u (h0_0.below hB) (by omega)).mono ?_
  rintro e w4 ⟨a_0x, c_0x, a'_0x, c'_0x, vs_x, vs'_x, rfl, hox0, hbw4⟩
  have zw4 : w3.heap.size ≤ w4.heap.size := hbw4.size
  replace hLP0 := hLP0.below hbw4 hLP0.lt
  replace lP0 := hLP0.cells2
  replace yP0 := hLP0.lt
  replace how := how.below hbw4
  replace hB := below_th hB hbw4
  have lox0 : ∀ g, SolS a_0x n_0 vs_x a'_0x n'_0 vs'_x g → w3.heap.size ≤ g := hox0.uLo
  have hix0 : ∀ g, SolS a_0x n_0 vs_x a'_0x n'_0 vs'_x g → g < w4.heap.size := hox0.uHi
  go_wp2_with fail
  refine (HI.out _ _ _ _ _ ((hox0.alloc _).sol)).mono ?_
  rintro e w5 ⟨ag, ng, cg, vsg, rfl, hog, hbw5⟩
  have zw5 : w4.heap.size + 1 ≤ w5.heap.size := by have := hbw5.size; simpa using this
  replace hLP0 := (hLP0.alloc _).below hbw5 (hLP0.alloc _).lt
  replace lP0 := hLP0.cells2
  replace yP0 := hLP0.lt
  have hLX0 : Loc _ (w4.heap.size) _ _ := (Loc.new _ (by simp) _ _).below hbw5 (by first | omega | (simp; done) | (simp; omega))
  have lX0 := hLX0.cells2
  have yX0 := hLX0.lt
  replace how := (how.alloc _).below hbw5
  replace hox0 := (hox0.alloc _).below hbw5
  replace hB := below_th (below_al hB _) hbw5
  have log : ∀ g, TblS ag ng vsg g → w4.heap.size + 1 ≤ g := fun g hg => by have := hog.uLo g hg; simpa using this
  have hig : ∀ g, TblS ag ng vsg g → g < w5.heap.size := hog.uHi
  have cpg := hog.cap
  go_wp2_with fail
  refine (eqTbl_u (hog.tbl) (how.tbl) (by omega)).mono ?_
  rintro e w6 ⟨rfl, hbw6⟩
  have zw6 : w5.heap.size ≤ w6.heap.size := hbw6.size
  replace hLP0 := hLP0.below hbw6 hLP0.lt
  replace lP0 := hLP0.cells2
  replace yP0 := hLP0.lt
  replace hLX0 := hLX0.below hbw6 hLX0.lt
  replace lX0 := hLX0.cells2
  replace yX0 := hLX0.lt
  replace how := how.below hbw6
  replace hox0 := hox0.below hbw6
  replace hog := hog.below hbw6
  replace hB := below_th hB hbw6
  go_wp2_with fail
  have tok1 : True := trivial
  go_region_held3 (fun w' => (w'.cell? ⟨w.heap.size, 0, none⟩ = some (.slice a_0 n_0 c_0) ∧ w'.cell? ⟨w.heap.size, 1, none⟩ = some (.slice a'_0 n'_0 c'_0)) ∧ (w'.cell? ⟨w4.heap.size, 0, none⟩ = some (.slice a_0x n_0 c_0x) ∧ w'.cell? ⟨w4.heap.size, 1, none⟩ = some (.slice a'_0x n'_0 c'_0x)))
    (first | exact ⟨⟨lP0_w8.1, lP0_w8.2.1⟩, ⟨lX0_w8.1, lX0_w8.2.1⟩⟩ | exact ⟨⟨lP0_w7.1, lP0_w7.2.1⟩, ⟨lX0_w7.1, lX0_w7.2.1⟩⟩ | exact ⟨⟨lP0.1, lP0.2.1⟩, ⟨lX0.1, lX0.2.1⟩⟩)
    (first
      | (go_at_call 6; have _t := tok1; clear _t tok1; have tok2 : True := trivial; refine (toSol_u ((h0_0.below hB).drewN 1) (by omega)).mono ?_; rintro e w7 ⟨a_0y, c_0y, a'_0y, c'_0y, vs_y, vs'_y, rfl, hoy0_w7, hbw7⟩; have zw7 : w6.heap.size ≤ w7.heap.size := hbw7.size; have hrw7 : Below w6.heap.size w6 w7 := (Below.drew (Below.refl _ _)).trans hbw7; have hLP0_w7 := hLP0.below hrw7 hLP0.lt; have lP0_w7 := hLP0_w7.cells2; have hLX0_w7 := hLX0.below hrw7 hLX0.lt; have lX0_w7 := hLX0_w7.cells2; have loy0 : ∀ g, SolS a_0y n_0 vs_y a'_0y n'_0 vs'_y g → w6.heap.size ≤ g := hoy0_w7.uLo; have hiy0 : ∀ g, SolS a_0y n_0 vs_y a'_0y n'_0 vs'_y g → g < w7.heap.size := hoy0_w7.uHi)
      | (go_at_call 9; have _t := tok2; clear _t tok2; have tok3 : True := trivial; refine (eqSol_u (hox0.below hrw7).sol hoy0_w7.sol (by omega)).mono ?_; rintro e w8 ⟨rfl, hbw8⟩; have zw8 : w7.heap.size ≤ w8.heap.size := hbw8.size; have hrw8 : Below w6.heap.size w6 w8 := below_th hrw7 hbw8; have hLP0_w8 := hLP0.below hrw8 hLP0.lt; have lP0_w8 := hLP0_w8.cells2; have hLX0_w8 := hLX0.below hrw8 hLX0.lt; have lX0_w8 := hLX0_w8.cells2; have hoy0_w8 := hoy0_w7.below hbw8))
  replace hLP0 := hLP0_w8
  replace lP0 := lP0_w8
  clear hLP0_w7 lP0_w7
  replace yP0 := hLP0.lt
  replace hLX0 := hLX0_w8
  replace lX0 := lX0_w8
  clear hLX0_w7 lX0_w7
  replace yX0 := hLX0.lt
  replace how := how.below hrw8
  replace hox0 := hox0.below hrw8
  replace hog := hog.below hrw8
  have hoy0 := hoy0_w8
  replace hB := below_th hB hrw8
  clear tok3
  have hk : decide ((1 : Int) + ((tot xss_0 : Nat) : Int) + ((tot yss_0 : Nat) : Int) < 0) = false := decide_eq_false (by omega)
  go_wp2_with fail
  refine (markSol_u hox0 (by omega) (by omega)).mono ?_
  rintro e w9 ⟨rfl, hxx0, hmw9⟩
  have zw9 : w8.heap.size ≤ w9.heap.size := hmw9.size
  replace hLP0 := hLP0.marked hmw9 (fun h2 => by have e1 := lox0 _ h2; have e2 := hix0 _ h2; omega)
  replace lP0 := hLP0.cells2
  replace yP0 := hLP0.lt
  replace hLX0 := hLX0.marked hmw9 (fun h2 => by have e1 := lox0 _ h2; have e2 := hix0 _ h2; omega)
  replace lX0 := hLX0.cells2
  replace yX0 := hLX0.lt
  replace how := how.uKeep hmw9 (fun g h1 h2 => by have e1 := lox0 _ h2; have e2 := hix0 _ h2; have e3 := low _ h1; have e4 := hiw _ h1; omega)
  replace hog := hog.uKeep hmw9 (fun g h1 h2 => by have e1 := lox0 _ h2; have e2 := hix0 _ h2; have e3 := log _ h1; have e4 := hig _ h1; omega)
  replace hox0 := hxx0
  replace hB := Marked.below hB hmw9 hB.size (fun k h2 => by have e1 := lox0 _ h2; omega)
  go_wp2_with fail
  refine (eqTbl_u (hog.tbl) (how.tbl) (by omega)).mono ?_
  rintro e w10 ⟨rfl, hbw10⟩
  have zw10 : w9.heap.size ≤ w10.heap.size := hbw10.size
  replace hLP0 := hLP0.below hbw10 hLP0.lt
  replace lP0 := hLP0.cells2
  replace yP0 := hLP0.lt
  replace how := how.below hbw10
  replace hog := hog.below hbw10
  replace hB := below_th hB hbw10
  have hk1 : decide ((1 : Int) + ((tot rd0 : Nat) : Int) < 0) = false := decide_eq_false (by omega)
  have hne1 : ((1 : Int) + ((tot rd0 : Nat) : Int) != (1 : Int) + ((tot rd0 : Nat) : Int)) = false := by simp
  go_wp2_with fail
  refine (markTbl_u hog (by omega) (by omega)).mono ?_
  rintro e w11 ⟨rfl, hxg, hmw11⟩
  have zw11 : w10.heap.size ≤ w11.heap.size := hmw11.size
  replace hLP0 := hLP0.marked hmw11 (fun h2 => by have e1 := log _ h2; have e2 := hig _ h2; omega)
  replace lP0 := hLP0.cells2
  replace yP0 := hLP0.lt
  replace how := how.uKeep hmw11 (fun g h1 h2 => by have e1 := log _ h2; have e2 := hig _ h2; have e3 := low _ h1; have e4 := hiw _ h1; omega)
  replace hog := hxg
  replace hB := Marked.below hB hmw11 hB.size (fun k h2 => by have e1 := log _ h2; omega)
  go_wp2_with fail
  refine (heldTbl_u (hog.tbl) (by omega) (by omega) (by omega)).mono ?_
  rintro e w12 ⟨rfl, hbw12⟩
  have zw12 : w11.heap.size ≤ w12.heap.size := hbw12.size
  replace hLP0 := hLP0.below hbw12 hLP0.lt
  replace lP0 := hLP0.cells2
  replace yP0 := hLP0.lt
  replace how := how.below hbw12
  replace hog := hog.below hbw12
  replace hB := below_th hB hbw12
  go_wp2_with fail
  refine (toSol_u (h0_0.below hB) (by omega)).mono ?_
  rintro e w13 ⟨a_0z, c_0z, a'_0z, c'_0z, vs_z, vs'_z, rfl, hoz0, hbw13⟩
  have zw13 : w12.heap.size ≤ w13.heap.size := hbw13.size
  replace hLP0 := hLP0.below hbw13 hLP0.lt
  replace lP0 := hLP0.cells2
  replace yP0 := hLP0.lt
  replace how := how.below hbw13
  replace hog := hog.below hbw13
  replace hB := below_th hB hbw13
  have loz0 : ∀ g, SolS a_0z n_0 vs_z a'_0z n'_0 vs'_z g → w12.heap.size ≤ g := hoz0.uLo
  have hiz0 : ∀ g, SolS a_0z n_0 vs_z a'_0z n'_0 vs'_z g → g < w13.heap.size := hoz0.uHi
  go_wp2_with fail
  refine (HI.out _ _ _ _ _ (hoz0.sol)).mono ?_
  rintro e w14 ⟨ah, nh, ch, vsh, rfl, hoh, hbw14⟩
  have zw14 : w13.heap.size ≤ w14.heap.size := hbw14.size
  replace hLP0 := hLP0.below hbw14 hLP0.lt
  replace lP0 := hLP0.cells2
  replace yP0 := hLP0.lt
  replace how := how.below hbw14
  replace hog := hog.below hbw14
  replace hoz0 := hoz0.below hbw14
  replace hB := below_th hB hbw14
  have loh : ∀ g, TblS ah nh vsh g → w13.heap.size ≤ g := hoh.uLo
  have hih : ∀ g, TblS ah nh vsh g → g < w14.heap.size := hoh.uHi
  have cph := hoh.cap
  go_wp2_with fail
  refine (eqTbl_u (hoh.tbl) (how.tbl) (by omega)).mono ?_
  rintro e w15 ⟨rfl, hbw15⟩
  have zw15 : w14.heap.size ≤ w15.heap.size := hbw15.size
  replace hLP0 := hLP0.below hbw15 hLP0.lt
  replace lP0 := hLP0.cells2
  replace yP0 := hLP0.lt
  replace how := how.below hbw15
  replace hog := hog.below hbw15
  replace hoh := hoh.below hbw15
  replace hB := below_th hB hbw15
  go_wp2_with fail
  refine (heldTbl_u (hog.tbl) (by omega) (by omega) (by omega)).mono ?_
  rintro e w16 ⟨rfl, hbw16⟩
  have zw16 : w15.heap.size ≤ w16.heap.size := hbw16.size
  replace hLP0 := hLP0.below hbw16 hLP0.lt
  replace lP0 := hLP0.cells2
  replace yP0 := hLP0.lt
  replace how := how.below hbw16
  replace hog := hog.below hbw16
  replace hoh := hoh.below hbw16
  replace hB := below_th hB hbw16
  go_wp2_with fail
  go_ret
  exact ⟨rfl, hB⟩

theorem law_Wb (w : World) (a_0 : Option Addr) (n_0 : Nat) (c_0 : Nat) (xss_0 : List (List Int)) (a'_0 : Option Addr) (n'_0 : Nat) (c'_0 : Nat) (yss_0 : List (List Int)) (h0_0 : Sol w a_0 n_0 xss_0 a'_0 n'_0 yss_0) (h0_1 : n_0 ≤ 9223372036854775807 ∧ n'_0 ≤ 9223372036854775807) (x_1 : Int) (h1_0 : I64 x_1) : Calls Try.prog 3 #[sAgg a_0 n_0 c_0 a'_0 n'_0 c'_0, .int .i64 x_1] w fun e w' => e = .returned (.bool true) ∧ Below w.heap.size w w' := by
  refine (Classical.em ((n_0 + tot xss_0 + n'_0 + tot yss_0) ≤ 1048576)).elim (fun c0 => ?_) (fun c0 => law_Wb_big0 w a_0 n_0 c_0 xss_0 a'_0 n'_0 c'_0 yss_0 x_1 h0_0 h0_1 h1_0  (by omega))
  exact law_Wb_small w a_0 n_0 c_0 xss_0 a'_0 n'_0 c'_0 yss_0 x_1 h0_0 h0_1 h1_0  c0

end Go.Proofs.Ytmncpnpjhchliaa
