/-
  The walk of the law of DestabilizeBraid: it answers true.
  No condition.
-/
import Derived.Test.YtkanodiacfinmaaDestB
import Derived.Test.YtkanodiacfinmaaBraidH
import Derived.Test.YtkanodiacfinmaaOpen
import Derived.Deep.RegionHeld3
namespace Go.Proofs.Ytkanodiacfinmaa
set_option linter.unusedVariables false
set_option linter.unusedSimpArgs false
open Go.RowKit

theorem law_Dest_big (w : World) (s : Int) (a : Option Addr) (n c : Nat) (xs : List Int) (hs : I64 s) (hr : Row w a n xs) (hn : n ≤ 9223372036854775807) (hxs : I64s xs) (hbig : 1048576 < n) : Calls Try.prog 8 #[bAgg s a n c] w fun e w' => e = .returned (.bool true) ∧ Below w.heap.size w w' := by
  go_enter Try.func8, Try.ntmps8
  go_wp2_with fail
  refine (szBraid_no _ _ _ _ _ _ (by omega) (by omega) (by omega) hn).mono ?_
  rintro e w1 ⟨rfl, hb1⟩
  go_wp2
  go_ret
  exact ⟨rfl, below_alth (Below.refl _ _) hb1⟩

set_option maxHeartbeats 4000000 in
theorem law_Dest_small (w : World) (s : Int) (a : Option Addr) (n c : Nat) (xs : List Int) (hs : I64 s) (hr : Row w a n xs) (hn : n ≤ 9223372036854775807) (hxs : I64s xs) (hsm : n ≤ 1048576) : Calls Try.prog 8 #[bAgg s a n c] w fun e w' => e = .returned (.bool true) ∧ Below w.heap.size w w' := by
  obtain ⟨rs, rxs, code, hlen, HS, HI⟩ : ∃ rs rxs code, List.length rxs ≤ 2000 ∧ Hid (∀ (w : World) (a : Option Addr) (c : Nat), Row w a n xs → n ≤ c → Calls Try.prog 25 #[bAgg s a n c] w (RetB w rs rxs code)) ∧ Hid (∀ (w : World) (a : Option Addr) (c : Nat), Row w a n xs → n ≤ c → Calls Try.prog 26 #[bAgg s a n c] w (RetB w rs rxs code)) :=
    ⟨_, _, _, Dest_len s xs, Lib.hid fun w a c hr hnc => spec_Dest_any s a n c xs w hr hn hs hnc, Lib.hid fun w a c hr hnc => impl_Dest_any s a n c xs w hr hn hs hnc⟩
  have hne : (code != code) = false := by simp
  go_enter Try.func8, Try.ntmps8
  have hB : Below w.heap.size w w := Below.refl _ _
  have hr0 := hr
  go_wp2_with fail
  refine (szBraid_ok _ _ _ _ _ _ (by omega) (by omega)).mono ?_
  rintro e w1 ⟨rfl, hb1⟩
  have hr0 := (hr0.alloc _).below hb1
  have hB := below_alth hB hb1
  have hL0 : Loc _ w.heap.size _ _ := (Loc.new _ rfl _ _).below hb1 (by first | omega | (simp <;> omega))
  have l0 := hL0.two
  have z01 := hL0.lt
  go_wp2_with fail
  refine (toBraid_any _ _ _ _ xs _ hr0 hsm).mono ?_
  rintro e w2 ⟨a2, c2, rfl, ho2, hb2⟩
  have hL0 := (hL0).below hb2 (by have := hL0.lt; first | omega | (simp <;> omega))
  have l0 := hL0.two
  have hr0 := (hr0).below hb2
  have hB := below_th hB hb2
  go_wp2_with fail
  refine (HS.out _ _ _ ho2.row ho2.cap.1).mono ?_
  rintro e w3 ⟨aw, nw, cw, rfl, how, hb3⟩
  have hL0 := (hL0).below hb3 (by have := hL0.lt; first | omega | (simp <;> omega))
  have l0 := hL0.two
  have hr0 := (hr0).below hb3
  have hB := below_th hB hb3
  have hiw := how.hi
  have lnw : nw ≤ 2000 := by have := how.len; omega
  have z03 := hL0.lt
  go_wp2_with fail
  refine (toBraid_any _ _ _ _ xs _ (hr0.alloc _) hsm).mono ?_
  rintro e w4 ⟨ax, cx, rfl, hox, hb4⟩
  have hL0 := (hL0.alloc _).below hb4 (by have := hL0.lt; first | omega | (simp <;> omega))
  have l0 := hL0.two
  have how := (how.alloc _).below hb4
  have hr0 := (hr0.alloc _).below hb4
  have hB := below_alth hB hb4
  have hLw : Loc _ w3.heap.size _ _ := (Loc.new _ rfl _ _).below hb4 (by first | omega | (simp <;> omega))
  have lw := hLw.two
  have lox : ∀ g, ax = some ⟨g, 0, none⟩ → w3.heap.size < g := fun g h => by have := hox.lo g h; rw [size_alloc] at this; omega
  have hix := hox.hi
  have z04 := hL0.lt
  have zw4 := hLw.lt
  go_wp2_with fail
  refine (HI.out _ _ _ (hox.row.alloc _) hox.cap.1).mono ?_
  rintro e w5 ⟨ag, ng, cg, rfl, hog, hb5⟩
  have hL0 := (hL0.alloc _).below hb5 (by have := hL0.lt; first | omega | (simp <;> omega))
  have l0 := hL0.two
  have hLw := (hLw.alloc _).below hb5 (by have := hLw.lt; first | omega | (simp <;> omega))
  have lw := hLw.two
  have how := (how.alloc _).below hb5
  have hox := (hox.alloc _).below hb5
  have hr0 := (hr0.alloc _).below hb5
  have hB := below_alth hB hb5
  have hLx : Loc _ w4.heap.size _ _ := (Loc.new _ rfl _ _).below hb5 (by first | omega | (simp <;> omega))
  have lx := hLx.two
  have log : ∀ g, ag = some ⟨g, 0, none⟩ → w4.heap.size < g := fun g h => by have := hog.lo g h; rw [size_alloc] at this; omega
  have hig := hog.hi
  have lng : ng ≤ 2000 := by have := hog.len; omega
  have z05 := hL0.lt
  have zw5 := hLw.lt
  have zx5 := hLx.lt
  go_wp2_with fail
  refine (eqBraid_same _ _ _ _ _ _ _ _ _ (hog.row.alloc _) (how.row.alloc _) (by omega)).mono ?_
  rintro e w6 ⟨rfl, hb6⟩
  have hL0 := (hL0.alloc _).below hb6 (by have := hL0.lt; first | omega | (simp <;> omega))
  have l0 := hL0.two
  have hLw := (hLw.alloc _).below hb6 (by have := hLw.lt; first | omega | (simp <;> omega))
  have lw := hLw.two
  have hLx := (hLx.alloc _).below hb6 (by have := hLx.lt; first | omega | (simp <;> omega))
  have lx := hLx.two
  have how := (how.alloc _).below hb6
  have hox := (hox.alloc _).below hb6
  have hog := (hog.alloc _).below hb6
  have hr0 := (hr0.alloc _).below hb6
  have hB := below_alth hB hb6
  have hLg : Loc _ w5.heap.size _ _ := (Loc.new _ rfl _ _).below hb6 (by first | omega | (simp <;> omega))
  have lg := hLg.two
  have z06 := hL0.lt
  have zw6 := hLw.lt
  have zx6 := hLx.lt
  have zg6 := hLg.lt
  go_wp2_with fail
  go_region_held3 (fun w' => (w'.cell? ⟨w4.heap.size, 0, none⟩ = some (.int .i64 s) ∧ w'.cell? ⟨w4.heap.size, 1, none⟩ = some (.slice ax n cx)) ∧ w'.cell? ⟨w.heap.size, 0, none⟩ = some (.int .i64 s) ∧ w'.cell? ⟨w.heap.size, 1, none⟩ = some (.slice a n c))
    (first | exact ⟨⟨lx.1, lx.2.1⟩, l0.1, l0.2.1⟩ | exact ⟨⟨lx7.1, lx7.2.1⟩, l07.1, l07.2.1⟩ | exact ⟨⟨lx8.1, lx8.2.1⟩, l08.1, l08.2.1⟩)
    (first
      | (go_at_call 17; refine (toBraid_any _ _ _ _ xs _ (hr0.drewN 1) hsm).mono ?_; rintro e w7 ⟨ay, cy, rfl, hoy, hb7⟩; have hL07 := (hL0.drewN 1).below hb7 hL0.lt; have hLx7 := (hLx.drewN 1).below hb7 hLx.lt; have l07 := hL07.two; have lx7 := hLx7.two; have hox7 := (hox.drewN 1).below hb7)
      | (go_at_call 12; refine (eqBraid_same _ _ _ _ _ _ _ _ _ hox7.row hoy.row (by omega)).mono ?_; rintro e w8 ⟨rfl, hb78⟩; have hL08 := hL07.below hb78 hL07.lt; have hLx8 := hLx7.below hb78 hLx7.lt; have l08 := hL08.two; have lx8 := hLx8.two))
  have hb8 : Below w6.heap.size w6 w8 := below_th ((Below.drew (Below.refl _ _)).trans hb7) hb78
  clear l07 lx7 l08 lx8
  have hL0 := (hL0).below hb8 (by have := hL0.lt; first | omega | (simp <;> omega))
  have l0 := hL0.two
  have hLw := (hLw).below hb8 (by have := hLw.lt; first | omega | (simp <;> omega))
  have lw := hLw.two
  have hLx := (hLx).below hb8 (by have := hLx.lt; first | omega | (simp <;> omega))
  have lx := hLx.two
  have hLg := (hLg).below hb8 (by have := hLg.lt; first | omega | (simp <;> omega))
  have lg := hLg.two
  have how := (how).below hb8
  have hox := (hox).below hb8
  have hog := (hog).below hb8
  have hr0 := (hr0).below hb8
  have hB := below_th hB hb8
  go_wp2_with fail
  refine (markBraid_any _ _ _ _ _ _ _ _ hox (by omega) (by omega)).mono ?_
  rintro e w9 ⟨rfl, hmx, hm9⟩
  have hB := Marked.below hB hm9 hB.size (fun k h => by have := lox _ h; omega)
  have hL0 := hL0.marked hm9 (fun h => by have := lox _ h; omega)
  have l0 := hL0.two
  have hLw := hLw.marked hm9 (fun h => by have := lox _ h; omega)
  have lw := hLw.two
  have hLx := hLx.marked hm9 (fun h => by have := hix _ h; omega)
  have lx := hLx.two
  have hLg := hLg.marked hm9 (fun h => by have := hix _ h; omega)
  have lg := hLg.two
  have how := how.marked hm9 (fun g h1 h2 => by have := lox _ h2; have := hiw _ h1; omega)
  have hog := hog.marked hm9 (fun g h1 h2 => by have := hix _ h2; have := log _ h1; omega)
  have hr0 : Row w9 a n xs := hr.below hB
  have hk9 : decide (1 + (n : Int) < 0) = false := by simp; omega
  go_wp2_with fail
  refine (eqBraid_same _ _ _ _ _ _ _ _ _ hog.row how.row (by omega)).mono ?_
  rintro e w10 ⟨rfl, hb10⟩
  have hL0 := (hL0).below hb10 (by have := hL0.lt; first | omega | (simp <;> omega))
  have l0 := hL0.two
  have hLw := (hLw).below hb10 (by have := hLw.lt; first | omega | (simp <;> omega))
  have lw := hLw.two
  have hLx := (hLx).below hb10 (by have := hLx.lt; first | omega | (simp <;> omega))
  have lx := hLx.two
  have hLg := (hLg).below hb10 (by have := hLg.lt; first | omega | (simp <;> omega))
  have lg := hLg.two
  have how := (how).below hb10
  have hog := (hog).below hb10
  have hr0 := (hr0).below hb10
  have hB := below_th hB hb10
  go_wp2_with fail
  refine (markBraid_any _ _ _ _ _ _ _ _ hog (by omega) (by omega)).mono ?_
  rintro e w11 ⟨rfl, hog, hm11⟩
  have hB := Marked.below hB hm11 hB.size (fun k h => by have := log _ h; omega)
  have hL0 := hL0.marked hm11 (fun h => by have := log _ h; omega)
  have l0 := hL0.two
  have hLw := hLw.marked hm11 (fun h => by have := log _ h; omega)
  have lw := hLw.two
  have hLx := hLx.marked hm11 (fun h => by have := log _ h; omega)
  have lx := hLx.two
  have hLg := hLg.marked hm11 (fun h => by have := hig _ h; omega)
  have lg := hLg.two
  have how := how.marked hm11 (fun g h1 h2 => by have := log _ h2; have := hiw _ h1; omega)
  have hr0 : Row w11 a n xs := hr.below hB
  have hne1 : ((1 : Int) + (ng : Int) != 1 + (ng : Int)) = false := by simp
  go_wp2_with fail
  refine (heldBraid_any _ _ _ _ _ _ hog.row (by omega) (by omega)).mono ?_
  rintro e w12 ⟨rfl, hb12⟩
  have hL0 := (hL0).below hb12 (by have := hL0.lt; first | omega | (simp <;> omega))
  have l0 := hL0.two
  have hLw := (hLw).below hb12 (by have := hLw.lt; first | omega | (simp <;> omega))
  have lw := hLw.two
  have hLx := (hLx).below hb12 (by have := hLx.lt; first | omega | (simp <;> omega))
  have lx := hLx.two
  have hLg := (hLg).below hb12 (by have := hLg.lt; first | omega | (simp <;> omega))
  have lg := hLg.two
  have how := (how).below hb12
  have hog := (hog).below hb12
  have hr0 := (hr0).below hb12
  have hB := below_th hB hb12
  go_wp2_with fail
  refine (toBraid_any _ _ _ _ xs _ hr0 hsm).mono ?_
  rintro e w13 ⟨ay, cy, rfl, hoy, hb13⟩
  have hL0 := (hL0).below hb13 (by have := hL0.lt; first | omega | (simp <;> omega))
  have l0 := hL0.two
  have hLw := (hLw).below hb13 (by have := hLw.lt; first | omega | (simp <;> omega))
  have lw := hLw.two
  have hLx := (hLx).below hb13 (by have := hLx.lt; first | omega | (simp <;> omega))
  have lx := hLx.two
  have hLg := (hLg).below hb13 (by have := hLg.lt; first | omega | (simp <;> omega))
  have lg := hLg.two
  have how := (how).below hb13
  have hog := (hog).below hb13
  have hr0 := (hr0).below hb13
  have hB := below_th hB hb13
  go_wp2_with fail
  refine (HI.out _ _ _ hoy.row hoy.cap.1).mono ?_
  rintro e w14 ⟨ah, nh, ch, rfl, hoh, hb14⟩
  have hL0 := (hL0).below hb14 (by have := hL0.lt; first | omega | (simp <;> omega))
  have l0 := hL0.two
  have hLw := (hLw).below hb14 (by have := hLw.lt; first | omega | (simp <;> omega))
  have lw := hLw.two
  have hLx := (hLx).below hb14 (by have := hLx.lt; first | omega | (simp <;> omega))
  have lx := hLx.two
  have hLg := (hLg).below hb14 (by have := hLg.lt; first | omega | (simp <;> omega))
  have lg := hLg.two
  have how := (how).below hb14
  have hog := (hog).below hb14
  have hr0 := (hr0).below hb14
  have hB := below_th hB hb14
  have lnh : nh ≤ 2000 := by have := hoh.len; omega
  have z014 := hL0.lt
  have zw14 := hLw.lt
  have zx14 := hLx.lt
  have zg14 := hLg.lt
  go_wp2_with fail
  refine (eqBraid_same _ _ _ _ _ _ _ _ _ (hoh.row.alloc _) (how.row.alloc _) (by omega)).mono ?_
  rintro e w15 ⟨rfl, hb15⟩
  have hL0 := (hL0.alloc _).below hb15 (by have := hL0.lt; first | omega | (simp <;> omega))
  have l0 := hL0.two
  have hLw := (hLw.alloc _).below hb15 (by have := hLw.lt; first | omega | (simp <;> omega))
  have lw := hLw.two
  have hLx := (hLx.alloc _).below hb15 (by have := hLx.lt; first | omega | (simp <;> omega))
  have lx := hLx.two
  have hLg := (hLg.alloc _).below hb15 (by have := hLg.lt; first | omega | (simp <;> omega))
  have lg := hLg.two
  have how := (how.alloc _).below hb15
  have hog := (hog.alloc _).below hb15
  have hr0 := (hr0.alloc _).below hb15
  have hB := below_alth hB hb15
  go_wp2_with fail
  refine (heldBraid_any _ _ _ _ _ _ hog.row (by omega) (by omega)).mono ?_
  rintro e w16 ⟨rfl, hb16⟩
  go_wp2_with fail
  go_ret
  exact ⟨rfl, below_th hB hb16⟩

theorem law_Dest (s : Int) (a : Option Addr) (n c : Nat) (xs : List Int) (hs : I64 s) (w : World) (hr : Row w a n xs) (hn : n ≤ 9223372036854775807) (hxs : I64s xs) : Calls Try.prog 8 #[bAgg s a n c] w fun e w' => e = .returned (.bool true) ∧ Below w.heap.size w w' := by
  by_cases h : n ≤ 1048576
  · exact law_Dest_small w s a n c xs hs hr hn hxs h
  · exact law_Dest_big w s a n c xs hs hr hn hxs (by omega)

end Go.Proofs.Ytkanodiacfinmaa
