/-
  The walk of the law of AddMatrices: it answers true.
  No condition.
-/
import Derived.Test.YtkanodiacfinmaaAddM
import Derived.Test.YtkanodiacfinmaaHelpT
import Derived.Test.YtkanodiacfinmaaOpen
namespace Go.Proofs.Ytkanodiacfinmaa
set_option linter.unusedVariables false
set_option linter.unusedSimpArgs false
open Go.RowKit

set_option maxHeartbeats 1000000 in
theorem law_AddM_big0 (w : World) (x_0 : Int) (a_1 : Option Addr) (n_1 : Nat) (c_1 : Nat) (xss_1 : List (List Int)) (a_2 : Option Addr) (n_2 : Nat) (c_2 : Nat) (xss_2 : List (List Int)) (h0_0 : I64 x_0) (h1_0 : Tbl w a_1 n_1 xss_1) (h1_1 : n_1 ≤ 9223372036854775807) (h2_0 : Tbl w a_2 n_2 xss_2) (h2_1 : n_2 ≤ 9223372036854775807)  (hbig : 1048576 < (n_1 + tot xss_1)) : Calls Try.prog 9 #[.int .i64 x_0, .slice a_1 n_1 c_1, .slice a_2 n_2 c_2] w fun e w' => e = .returned (.bool true) ∧ Below w.heap.size w w' := by
  go_enter Try.func9, Try.ntmps9
  go_wp2_with fail
  refine (szInt64SS_no _ _ _ _ _ _ h1_0 (by omega) (by omega) (by omega) h1_1).mono ?_
  rintro e w' ⟨rfl, rfl⟩
  go_wp2
  go_ret
  exact ⟨rfl, Below.refl _ _⟩

set_option maxHeartbeats 1000000 in
theorem law_AddM_big1 (w : World) (x_0 : Int) (a_1 : Option Addr) (n_1 : Nat) (c_1 : Nat) (xss_1 : List (List Int)) (a_2 : Option Addr) (n_2 : Nat) (c_2 : Nat) (xss_2 : List (List Int)) (h0_0 : I64 x_0) (h1_0 : Tbl w a_1 n_1 xss_1) (h1_1 : n_1 ≤ 9223372036854775807) (h2_0 : Tbl w a_2 n_2 xss_2) (h2_1 : n_2 ≤ 9223372036854775807)  (hpre : (n_1 + tot xss_1) ≤ 1048576) (hbig : 1048576 < (n_1 + tot xss_1) + (n_2 + tot xss_2)) : Calls Try.prog 9 #[.int .i64 x_0, .slice a_1 n_1 c_1, .slice a_2 n_2 c_2] w fun e w' => e = .returned (.bool true) ∧ Below w.heap.size w w' := by
  go_enter Try.func9, Try.ntmps9
  go_wp2_with fail
  refine (szInt64SS_ok _ _ _ _ _ _ h1_0 (by omega) (by omega)).mono ?_
  rintro e w' ⟨rfl, rfl⟩
  go_wp2_with fail
  refine (szInt64SS_no _ _ _ _ _ _ h2_0 (by omega) (by omega) (by omega) h2_1).mono ?_
  rintro e w' ⟨rfl, rfl⟩
  go_wp2
  go_ret
  exact ⟨rfl, Below.refl _ _⟩

set_option maxHeartbeats 4000000 in
theorem law_AddM_small (w : World) (x_0 : Int) (a_1 : Option Addr) (n_1 : Nat) (c_1 : Nat) (xss_1 : List (List Int)) (a_2 : Option Addr) (n_2 : Nat) (c_2 : Nat) (xss_2 : List (List Int)) (h0_0 : I64 x_0) (h1_0 : Tbl w a_1 n_1 xss_1) (h1_1 : n_1 ≤ 9223372036854775807) (h2_0 : Tbl w a_2 n_2 xss_2) (h2_1 : n_2 ≤ 9223372036854775807) (hs0 : (n_1 + tot xss_1) + (n_2 + tot xss_2) ≤ 1048576) : Calls Try.prog 9 #[.int .i64 x_0, .slice a_1 n_1 c_1, .slice a_2 n_2 c_2] w fun e w' => e = .returned (.bool true) ∧ Below w.heap.size w w' := by
  obtain ⟨rd, code, hlen, HS, HI⟩ : ∃ (rd : List (List Int)) (code : Int), tot rd ≤ 1000000 ∧ Hid (∀ (w' : World) (a_1' : Option Addr) (c_1' : Nat) (a_2' : Option Addr) (c_2' : Nat), Tbl w' a_1' n_1 xss_1 → Tbl w' a_2' n_2 xss_2 → Calls Try.prog 28 #[.int .i64 x_0, .slice a_1' n_1 c_1', .slice a_2' n_2 c_2'] w' (RetT w' rd code)) ∧ Hid (∀ (w' : World) (a_1' : Option Addr) (c_1' : Nat) (a_2' : Option Addr) (c_2' : Nat), Tbl w' a_1' n_1 xss_1 → Tbl w' a_2' n_2 xss_2 → Calls Try.prog 30 #[.int .i64 x_0, .slice a_1' n_1 c_1', .slice a_2' n_2 c_2'] w' (RetT w' rd code)) :=
    ⟨_, _, AddM_len x_0 xss_1 xss_2, Lib.hid fun w' a_1' c_1' a_2' c_2' r1 r2 => spec_AddM_l x_0 a_1' n_1 c_1' xss_1 a_2' n_2 c_2' xss_2 w' h0_0 r1 h1_1 r2 h2_1, Lib.hid fun w' a_1' c_1' a_2' c_2' r1 r2 => impl_AddM_l x_0 a_1' n_1 c_1' xss_1 a_2' n_2 c_2' xss_2 w' h0_0 r1 h1_1 r2 h2_1⟩
  have hne : (code != code) = false := by simp
  go_enter Try.func9, Try.ntmps9
  go_wp2_with fail
  refine (szInt64SS_ok _ _ _ _ _ _ h1_0 (by omega) (by omega)).mono ?_
  rintro e w' ⟨rfl, rfl⟩
  go_wp2_with fail
  refine (szInt64SS_ok _ _ _ _ _ _ h2_0 (by omega) (by omega)).mono ?_
  rintro e w' ⟨rfl, rfl⟩
  have hB : Below w.heap.size w w := Below.refl _ _
  go_wp2_with fail
  refine (toInt64SS_any _ _ _ xss_1 _ (h1_0.below hB) (by omega)).mono ?_
  rintro e w1 ⟨a_1p, c_1p, vs_1p, rfl, hop1, hbw1⟩
  have zw1 := hbw1.size
  have hB := below_th hB hbw1
  have lop1 : ∀ g, (a_1p = some ⟨g, 0, none⟩ ∨ ∃ i, i < n_1 ∧ (List.getD vs_1p i svO).1 = some ⟨g, 0, none⟩) → w.heap.size ≤ g := fun g hg => hop1.blo g hg
  have hip1 : ∀ g, (a_1p = some ⟨g, 0, none⟩ ∨ ∃ i, i < n_1 ∧ (List.getD vs_1p i svO).1 = some ⟨g, 0, none⟩) → g < w1.heap.size := fun g hg => hop1.bhi g hg
  go_wp2_with fail
  refine (toInt64SS_any _ _ _ xss_2 _ (h2_0.below hB) (by omega)).mono ?_
  rintro e w2 ⟨a_2p, c_2p, vs_2p, rfl, hop2, hbw2⟩
  have zw2 := hbw2.size
  have hop1 := hop1.below hbw2
  have hB := below_th hB hbw2
  have lop2 : ∀ g, (a_2p = some ⟨g, 0, none⟩ ∨ ∃ i, i < n_2 ∧ (List.getD vs_2p i svO).1 = some ⟨g, 0, none⟩) → w1.heap.size ≤ g := fun g hg => hop2.blo g hg
  have hip2 : ∀ g, (a_2p = some ⟨g, 0, none⟩ ∨ ∃ i, i < n_2 ∧ (List.getD vs_2p i svO).1 = some ⟨g, 0, none⟩) → g < w2.heap.size := fun g hg => hop2.bhi g hg
  go_wp2_with fail
  refine (HS.out _ _ _ _ _ hop1.tbl hop2.tbl).mono ?_
  rintro e w3 ⟨aw, nw, cw, vsw, rfl, how, hbw3⟩
  have zw3 := hbw3.size
  have hop1 := hop1.below hbw3
  have hop2 := hop2.below hbw3
  have hB := below_th hB hbw3
  have low : ∀ g, (aw = some ⟨g, 0, none⟩ ∨ ∃ i, i < nw ∧ (List.getD vsw i svO).1 = some ⟨g, 0, none⟩) → w2.heap.size ≤ g := fun g hg => how.blo g hg
  have hiw : ∀ g, (aw = some ⟨g, 0, none⟩ ∨ ∃ i, i < nw ∧ (List.getD vsw i svO).1 = some ⟨g, 0, none⟩) → g < w3.heap.size := fun g hg => how.bhi g hg
  have cpw := how.cap
  go_wp2_with fail
  refine (toInt64SS_any _ _ _ xss_1 _ (h1_0.below hB) (by omega)).mono ?_
  rintro e w4 ⟨a_1x, c_1x, vs_1x, rfl, hox1, hbw4⟩
  have zw4 := hbw4.size
  have how := how.below hbw4
  have hB := below_th hB hbw4
  have lox1 : ∀ g, (a_1x = some ⟨g, 0, none⟩ ∨ ∃ i, i < n_1 ∧ (List.getD vs_1x i svO).1 = some ⟨g, 0, none⟩) → w3.heap.size ≤ g := fun g hg => hox1.blo g hg
  have hix1 : ∀ g, (a_1x = some ⟨g, 0, none⟩ ∨ ∃ i, i < n_1 ∧ (List.getD vs_1x i svO).1 = some ⟨g, 0, none⟩) → g < w4.heap.size := fun g hg => hox1.bhi g hg
  go_wp2_with fail
  refine (toInt64SS_any _ _ _ xss_2 _ (h2_0.below hB) (by omega)).mono ?_
  rintro e w5 ⟨a_2x, c_2x, vs_2x, rfl, hox2, hbw5⟩
  have zw5 := hbw5.size
  have how := how.below hbw5
  have hox1 := hox1.below hbw5
  have hB := below_th hB hbw5
  have lox2 : ∀ g, (a_2x = some ⟨g, 0, none⟩ ∨ ∃ i, i < n_2 ∧ (List.getD vs_2x i svO).1 = some ⟨g, 0, none⟩) → w4.heap.size ≤ g := fun g hg => hox2.blo g hg
  have hix2 : ∀ g, (a_2x = some ⟨g, 0, none⟩ ∨ ∃ i, i < n_2 ∧ (List.getD vs_2x i svO).1 = some ⟨g, 0, none⟩) → g < w5.heap.size := fun g hg => hox2.bhi g hg
  go_wp2_with fail
  refine (HI.out _ _ _ _ _ hox1.tbl hox2.tbl).mono ?_
  rintro e w6 ⟨ag, ng, cg, vsg, rfl, hog, hbw6⟩
  have zw6 := hbw6.size
  have how := how.below hbw6
  have hox1 := hox1.below hbw6
  have hox2 := hox2.below hbw6
  have hB := below_th hB hbw6
  have log : ∀ g, (ag = some ⟨g, 0, none⟩ ∨ ∃ i, i < ng ∧ (List.getD vsg i svO).1 = some ⟨g, 0, none⟩) → w5.heap.size ≤ g := fun g hg => hog.blo g hg
  have hig : ∀ g, (ag = some ⟨g, 0, none⟩ ∨ ∃ i, i < ng ∧ (List.getD vsg i svO).1 = some ⟨g, 0, none⟩) → g < w6.heap.size := fun g hg => hog.bhi g hg
  have cpg := hog.cap
  go_wp2_with fail
  refine (eqInt64SS_sameB _ _ _ _ _ _ _ _ hog.tbl how.tbl (by omega)).mono ?_
  rintro e w7 ⟨rfl, hbw7⟩
  have zw7 := hbw7.size
  have how := how.below hbw7
  have hox1 := hox1.below hbw7
  have hox2 := hox2.below hbw7
  have hog := hog.below hbw7
  have hB := below_th hB hbw7
  go_wp2_with fail
  refine (toInt64SS_any _ _ _ xss_1 _ (h1_0.below hB) (by omega)).mono ?_
  rintro e w8 ⟨a_1y, c_1y, vs_1y, rfl, hoy1, hbw8⟩
  have zw8 := hbw8.size
  have how := how.below hbw8
  have hox1 := hox1.below hbw8
  have hox2 := hox2.below hbw8
  have hog := hog.below hbw8
  have hB := below_th hB hbw8
  have loy1 : ∀ g, (a_1y = some ⟨g, 0, none⟩ ∨ ∃ i, i < n_1 ∧ (List.getD vs_1y i svO).1 = some ⟨g, 0, none⟩) → w7.heap.size ≤ g := fun g hg => hoy1.blo g hg
  have hiy1 : ∀ g, (a_1y = some ⟨g, 0, none⟩ ∨ ∃ i, i < n_1 ∧ (List.getD vs_1y i svO).1 = some ⟨g, 0, none⟩) → g < w8.heap.size := fun g hg => hoy1.bhi g hg
  go_wp2_with fail
  refine (eqInt64SS_sameB _ _ _ _ _ _ _ _ hox1.tbl hoy1.tbl (by omega)).mono ?_
  rintro e w9 ⟨rfl, hbw9⟩
  have zw9 := hbw9.size
  have how := how.below hbw9
  have hox1 := hox1.below hbw9
  have hox2 := hox2.below hbw9
  have hog := hog.below hbw9
  have hoy1 := hoy1.below hbw9
  have hB := below_th hB hbw9
  go_wp2_with fail
  refine (toInt64SS_any _ _ _ xss_2 _ (h2_0.below hB) (by omega)).mono ?_
  rintro e w10 ⟨a_2y, c_2y, vs_2y, rfl, hoy2, hbw10⟩
  have zw10 := hbw10.size
  have how := how.below hbw10
  have hox1 := hox1.below hbw10
  have hox2 := hox2.below hbw10
  have hog := hog.below hbw10
  have hB := below_th hB hbw10
  have loy2 : ∀ g, (a_2y = some ⟨g, 0, none⟩ ∨ ∃ i, i < n_2 ∧ (List.getD vs_2y i svO).1 = some ⟨g, 0, none⟩) → w9.heap.size ≤ g := fun g hg => hoy2.blo g hg
  have hiy2 : ∀ g, (a_2y = some ⟨g, 0, none⟩ ∨ ∃ i, i < n_2 ∧ (List.getD vs_2y i svO).1 = some ⟨g, 0, none⟩) → g < w10.heap.size := fun g hg => hoy2.bhi g hg
  go_wp2_with fail
  refine (eqInt64SS_sameB _ _ _ _ _ _ _ _ hox2.tbl hoy2.tbl (by omega)).mono ?_
  rintro e w11 ⟨rfl, hbw11⟩
  have zw11 := hbw11.size
  have how := how.below hbw11
  have hox1 := hox1.below hbw11
  have hox2 := hox2.below hbw11
  have hog := hog.below hbw11
  have hoy2 := hoy2.below hbw11
  have hB := below_th hB hbw11
  have hzw : w.heap.size ≤ w11.heap.size := hB.size
  go_wp2_with fail
  refine (markInt64SS_any _ _ _ _ _ _ _ _ hox1 (by omega) (by omega)).mono ?_
  rintro e w12 ⟨rfl, hox1, htw12⟩
  have zw12 := htw12.size
  have how := how.keep (fun g h1 _ => htw12.block g (fun h2 => by have e1 := lox1 _ (.inr h2); have e2 := hiw _ h1; omega))
  have hox2 := hox2.keep (fun g h1 _ => htw12.block g (fun h2 => by have e1 := hix1 _ (.inr h2); have e2 := lox2 _ h1; omega))
  have hog := hog.keep (fun g h1 _ => htw12.block g (fun h2 => by have e1 := hix1 _ (.inr h2); have e2 := log _ h1; omega))
  have hB := Touch.below hB htw12 (fun g h2 => by have e1 := lox1 _ (.inr h2); omega)
  go_wp2_with fail
  refine (markInt64SS_any _ _ _ _ _ _ _ _ hox2 (by omega) (by omega)).mono ?_
  rintro e w13 ⟨rfl, hox2, htw13⟩
  have zw13 := htw13.size
  have how := how.keep (fun g h1 _ => htw13.block g (fun h2 => by have e1 := lox2 _ (.inr h2); have e2 := hiw _ h1; omega))
  have hox1 := hox1.keep (fun g h1 _ => htw13.block g (fun h2 => by have e1 := lox2 _ (.inr h2); have e2 := hix1 _ h1; omega))
  have hog := hog.keep (fun g h1 _ => htw13.block g (fun h2 => by have e1 := hix2 _ (.inr h2); have e2 := log _ h1; omega))
  have hB := Touch.below hB htw13 (fun g h2 => by have e1 := lox2 _ (.inr h2); omega)
  go_wp2_with fail
  refine (eqInt64SS_sameB _ _ _ _ _ _ _ _ hog.tbl how.tbl (by omega)).mono ?_
  rintro e w14 ⟨rfl, hbw14⟩
  have zw14 := hbw14.size
  have how := how.below hbw14
  have hog := hog.below hbw14
  have hB := below_th hB hbw14
  go_wp2_with fail
  refine (markInt64SS_any _ _ _ _ _ _ _ _ hog (by omega) (by omega)).mono ?_
  rintro e w15 ⟨rfl, hog, htw15⟩
  have zw15 := htw15.size
  have how := how.keep (fun g h1 _ => htw15.block g (fun h2 => by have e1 := log _ (.inr h2); have e2 := hiw _ h1; omega))
  have hB := Touch.below hB htw15 (fun g h2 => by have e1 := log _ (.inr h2); omega)
  have hne1 : ((1 : Int) + ((tot rd : Nat) : Int) != 1 + ((tot rd : Nat) : Int)) = false := by simp
  go_wp2_with fail
  refine (heldInt64SS_anyB _ _ _ _ _ _ hog.tbl (by omega) (by omega) (by omega)).mono ?_
  rintro e w16 ⟨rfl, hbw16⟩
  have zw16 := hbw16.size
  have how := how.below hbw16
  have hog := hog.below hbw16
  have hB := below_th hB hbw16
  go_wp2_with fail
  refine (toInt64SS_any _ _ _ xss_1 _ (h1_0.below hB) (by omega)).mono ?_
  rintro e w17 ⟨a_1z, c_1z, vs_1z, rfl, hoz1, hbw17⟩
  have zw17 := hbw17.size
  have how := how.below hbw17
  have hog := hog.below hbw17
  have hB := below_th hB hbw17
  have loz1 : ∀ g, (a_1z = some ⟨g, 0, none⟩ ∨ ∃ i, i < n_1 ∧ (List.getD vs_1z i svO).1 = some ⟨g, 0, none⟩) → w16.heap.size ≤ g := fun g hg => hoz1.blo g hg
  have hiz1 : ∀ g, (a_1z = some ⟨g, 0, none⟩ ∨ ∃ i, i < n_1 ∧ (List.getD vs_1z i svO).1 = some ⟨g, 0, none⟩) → g < w17.heap.size := fun g hg => hoz1.bhi g hg
  go_wp2_with fail
  refine (toInt64SS_any _ _ _ xss_2 _ (h2_0.below hB) (by omega)).mono ?_
  rintro e w18 ⟨a_2z, c_2z, vs_2z, rfl, hoz2, hbw18⟩
  have zw18 := hbw18.size
  have how := how.below hbw18
  have hog := hog.below hbw18
  have hoz1 := hoz1.below hbw18
  have hB := below_th hB hbw18
  have loz2 : ∀ g, (a_2z = some ⟨g, 0, none⟩ ∨ ∃ i, i < n_2 ∧ (List.getD vs_2z i svO).1 = some ⟨g, 0, none⟩) → w17.heap.size ≤ g := fun g hg => hoz2.blo g hg
  have hiz2 : ∀ g, (a_2z = some ⟨g, 0, none⟩ ∨ ∃ i, i < n_2 ∧ (List.getD vs_2z i svO).1 = some ⟨g, 0, none⟩) → g < w18.heap.size := fun g hg => hoz2.bhi g hg
  go_wp2_with fail
  refine (HI.out _ _ _ _ _ hoz1.tbl hoz2.tbl).mono ?_
  rintro e w19 ⟨ah, nh, ch, vsh, rfl, hoh, hbw19⟩
  have zw19 := hbw19.size
  have how := how.below hbw19
  have hog := hog.below hbw19
  have hoz1 := hoz1.below hbw19
  have hoz2 := hoz2.below hbw19
  have hB := below_th hB hbw19
  have loh : ∀ g, (ah = some ⟨g, 0, none⟩ ∨ ∃ i, i < nh ∧ (List.getD vsh i svO).1 = some ⟨g, 0, none⟩) → w18.heap.size ≤ g := fun g hg => hoh.blo g hg
  have hih : ∀ g, (ah = some ⟨g, 0, none⟩ ∨ ∃ i, i < nh ∧ (List.getD vsh i svO).1 = some ⟨g, 0, none⟩) → g < w19.heap.size := fun g hg => hoh.bhi g hg
  have cph := hoh.cap
  go_wp2_with fail
  refine (eqInt64SS_sameB _ _ _ _ _ _ _ _ hoh.tbl how.tbl (by omega)).mono ?_
  rintro e w20 ⟨rfl, hbw20⟩
  have zw20 := hbw20.size
  have how := how.below hbw20
  have hog := hog.below hbw20
  have hoz1 := hoz1.below hbw20
  have hoz2 := hoz2.below hbw20
  have hoh := hoh.below hbw20
  have hB := below_th hB hbw20
  go_wp2_with fail
  refine (heldInt64SS_anyB _ _ _ _ _ _ hog.tbl (by omega) (by omega) (by omega)).mono ?_
  rintro e w21 ⟨rfl, hbw21⟩
  have zw21 := hbw21.size
  have how := how.below hbw21
  have hog := hog.below hbw21
  have hoz1 := hoz1.below hbw21
  have hoz2 := hoz2.below hbw21
  have hoh := hoh.below hbw21
  have hB := below_th hB hbw21
  go_wp2_with fail
  go_ret
  exact ⟨rfl, hB⟩

theorem law_AddM (w : World) (x_0 : Int) (h0_0 : I64 x_0) (a_1 : Option Addr) (n_1 : Nat) (c_1 : Nat) (xss_1 : List (List Int)) (h1_0 : Tbl w a_1 n_1 xss_1) (h1_1 : n_1 ≤ 9223372036854775807) (a_2 : Option Addr) (n_2 : Nat) (c_2 : Nat) (xss_2 : List (List Int)) (h2_0 : Tbl w a_2 n_2 xss_2) (h2_1 : n_2 ≤ 9223372036854775807) : Calls Try.prog 9 #[.int .i64 x_0, .slice a_1 n_1 c_1, .slice a_2 n_2 c_2] w fun e w' => e = .returned (.bool true) ∧ Below w.heap.size w w' := by
  refine (Classical.em ((n_1 + tot xss_1) ≤ 1048576)).elim (fun c0 => ?_) (fun c0 => law_AddM_big0 w x_0 a_1 n_1 c_1 xss_1 a_2 n_2 c_2 xss_2 h0_0 h1_0 h1_1 h2_0 h2_1  (by omega))
  refine (Classical.em ((n_1 + tot xss_1) + (n_2 + tot xss_2) ≤ 1048576)).elim (fun c1 => ?_) (fun c1 => law_AddM_big1 w x_0 a_1 n_1 c_1 xss_1 a_2 n_2 c_2 xss_2 h0_0 h1_0 h1_1 h2_0 h2_1  c0 (by omega))
  exact law_AddM_small w x_0 a_1 n_1 c_1 xss_1 a_2 n_2 c_2 xss_2 h0_0 h1_0 h1_1 h2_0 h2_1  c1

end Go.Proofs.Ytkanodiacfinmaa
