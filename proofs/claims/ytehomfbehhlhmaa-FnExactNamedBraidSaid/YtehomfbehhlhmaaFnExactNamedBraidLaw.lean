/-
  The walk of the law of NamedBraid: it answers true.
  No condition.
-/
import Derived.Test.YtehomfbehhlhmaaNamS
import Derived.Test.YtehomfbehhlhmaaUB
import Derived.Test.YtehomfbehhlhmaaOpen
import Derived.Deep.RegionHeld3
namespace Go.Proofs.Ytehomfbehhlhmaa
set_option maxRecDepth 100000
set_option linter.unusedVariables false
set_option linter.unusedSimpArgs false
open Go.RowKit

theorem law_Nb_bigr0 (w : World) (t_0 : ByteArray) (h0_0 : t_0.size ≤ 9223372036854775807)  (hbig : 1048576 < t_0.size) : Calls Try.prog 3 #[.string t_0] w fun e w' => e = .returned (.bool true) ∧ Below w.heap.size w w' := by
  go_enter Try.func3, Try.ntmps3
  go_wp2
  go_ret
  exact ⟨rfl, Below.refl _ _⟩

set_option maxHeartbeats 8000000 in
theorem law_Nb_small (w : World) (t_0 : ByteArray) (h0_0 : t_0.size ≤ 9223372036854775807) (hs0 : t_0.size ≤ 1048576) : Calls Try.prog 3 #[.string t_0] w fun e w' => e = .returned (.bool true) ∧ Below w.heap.size w w' := by
  obtain ⟨rd0, rd1, code, hlen, HS, HI⟩ : ∃ (rd0 : Int) (rd1 : List Int) (code : Int), List.length rd1 ≤ 1000000 ∧ Hid (∀ (w' : World) , Calls Try.prog 14 #[.string t_0] w' (RetB w' rd0 rd1 code)) ∧ Hid (∀ (w' : World) , Calls Try.prog 15 #[.string t_0] w' (RetB w' rd0 rd1 code)) :=
    ⟨_, _, _, Nb_len t_0, Lib.hid fun w'  => spec_Nb_l t_0 w' h0_0, Lib.hid fun w'  => impl_Nb_l t_0 w' h0_0⟩
  have hne : (code != code) = false := by simp
  go_enter Try.func3, Try.ntmps3
  have hB : Below w.heap.size w w := Below.refl _ _
  go_wp2_with fail
  refine (HS.out _  ).mono ?_
  rintro e w1 ⟨aw, nw, cw, rfl, how, hbw1⟩
  have zw1 : w.heap.size ≤ w1.heap.size := hbw1.size
  replace hB := below_th hB hbw1
  have low : ∀ g, RowS aw g → w.heap.size ≤ g := how.uLo
  have hiw : ∀ g, RowS aw g → g < w1.heap.size := how.uHi
  have cpw := how.cap
  have lnw : nw ≤ 1000000 := by have := how.len; omega
  go_wp2_with fail
  refine (HI.out _  ).mono ?_
  rintro e w2 ⟨ag, ng, cg, rfl, hog, hbw2⟩
  have zw2 : w1.heap.size + 1 ≤ w2.heap.size := by have := hbw2.size; simpa using this
  have hLw : Loc _ (w1.heap.size) _ _ := (Loc.new _ (by simp) _ _).below hbw2 (by first | omega | (simp; done) | (simp; omega))
  have lw := hLw.cells2
  have yw := hLw.lt
  replace how := (how.alloc _).below hbw2
  replace hB := below_th (below_al hB _) hbw2
  have log : ∀ g, RowS ag g → w1.heap.size + 1 ≤ g := fun g hg => by have := hog.uLo g hg; simpa using this
  have hig : ∀ g, RowS ag g → g < w2.heap.size := hog.uHi
  have cpg := hog.cap
  have lng : ng ≤ 1000000 := by have := hog.len; omega
  go_wp2_with fail
  refine (eqBraid_u ((hog.alloc _).row) ((how.alloc _).row) (by omega)).mono ?_
  rintro e w3 ⟨rfl, hbw3⟩
  have zw3 : w2.heap.size + 1 ≤ w3.heap.size := by have := hbw3.size; simpa using this
  replace hLw := (hLw.alloc _).below hbw3 (hLw.alloc _).lt
  replace lw := hLw.cells2
  replace yw := hLw.lt
  have hLg : Loc _ (w2.heap.size) _ _ := (Loc.new _ (by simp) _ _).below hbw3 (by first | omega | (simp; done) | (simp; omega))
  have lg := hLg.cells2
  have yg := hLg.lt
  replace how := (how.alloc _).below hbw3
  replace hog := (hog.alloc _).below hbw3
  replace hB := below_th (below_al hB _) hbw3
  have hk1 : decide ((1 : Int) + (ng : Int) < 0) = false := decide_eq_false (by omega)
  have hne1 : ((1 : Int) + (ng : Int) != (1 : Int) + (ng : Int)) = false := by simp
  go_wp2_with fail
  refine (markBraid_u hog (by omega) (by omega)).mono ?_
  rintro e w4 ⟨rfl, hxg, hmw4⟩
  have zw4 : w3.heap.size ≤ w4.heap.size := hmw4.size
  replace hLw := hLw.marked hmw4 (fun h2 => by have e1 := log _ h2; have e2 := hig _ h2; omega)
  replace lw := hLw.cells2
  replace yw := hLw.lt
  replace hLg := hLg.marked hmw4 (fun h2 => by have e1 := log _ h2; have e2 := hig _ h2; omega)
  replace lg := hLg.cells2
  replace yg := hLg.lt
  replace how := how.uKeep hmw4 (fun g h1 h2 => by have e1 := log _ h2; have e2 := hig _ h2; have e3 := low _ h1; have e4 := hiw _ h1; omega)
  replace hog := hxg
  replace hB := Marked.below hB hmw4 hB.size (fun k h2 => by have e1 := log _ h2; omega)
  go_wp2_with fail
  refine (heldBraid_u (hog.row) (by omega) (by omega)).mono ?_
  rintro e w5 ⟨rfl, hbw5⟩
  have zw5 : w4.heap.size ≤ w5.heap.size := hbw5.size
  replace hLw := hLw.below hbw5 hLw.lt
  replace lw := hLw.cells2
  replace yw := hLw.lt
  replace hLg := hLg.below hbw5 hLg.lt
  replace lg := hLg.cells2
  replace yg := hLg.lt
  replace how := how.below hbw5
  replace hog := hog.below hbw5
  replace hB := below_th hB hbw5
  go_wp2_with fail
  refine (HI.out _  ).mono ?_
  rintro e w6 ⟨ah, nh, ch, rfl, hoh, hbw6⟩
  have zw6 : w5.heap.size ≤ w6.heap.size := hbw6.size
  replace hLw := hLw.below hbw6 hLw.lt
  replace lw := hLw.cells2
  replace yw := hLw.lt
  replace hLg := hLg.below hbw6 hLg.lt
  replace lg := hLg.cells2
  replace yg := hLg.lt
  replace how := how.below hbw6
  replace hog := hog.below hbw6
  replace hB := below_th hB hbw6
  have loh : ∀ g, RowS ah g → w5.heap.size ≤ g := hoh.uLo
  have hih : ∀ g, RowS ah g → g < w6.heap.size := hoh.uHi
  have cph := hoh.cap
  have lnh : nh ≤ 1000000 := by have := hoh.len; omega
  go_wp2_with fail
  refine (eqBraid_u ((hoh.alloc _).row) ((how.alloc _).row) (by omega)).mono ?_
  rintro e w7 ⟨rfl, hbw7⟩
  have zw7 : w6.heap.size + 1 ≤ w7.heap.size := by have := hbw7.size; simpa using this
  replace hLw := (hLw.alloc _).below hbw7 (hLw.alloc _).lt
  replace lw := hLw.cells2
  replace yw := hLw.lt
  replace hLg := (hLg.alloc _).below hbw7 (hLg.alloc _).lt
  replace lg := hLg.cells2
  replace yg := hLg.lt
  have hLh : Loc _ (w6.heap.size) _ _ := (Loc.new _ (by simp) _ _).below hbw7 (by first | omega | (simp; done) | (simp; omega))
  have lh := hLh.cells2
  have yh := hLh.lt
  replace how := (how.alloc _).below hbw7
  replace hog := (hog.alloc _).below hbw7
  replace hoh := (hoh.alloc _).below hbw7
  replace hB := below_th (below_al hB _) hbw7
  go_wp2_with fail
  refine (heldBraid_u (hog.row) (by omega) (by omega)).mono ?_
  rintro e w8 ⟨rfl, hbw8⟩
  have zw8 : w7.heap.size ≤ w8.heap.size := hbw8.size
  replace hLw := hLw.below hbw8 hLw.lt
  replace lw := hLw.cells2
  replace yw := hLw.lt
  replace hLg := hLg.below hbw8 hLg.lt
  replace lg := hLg.cells2
  replace yg := hLg.lt
  replace hLh := hLh.below hbw8 hLh.lt
  replace lh := hLh.cells2
  replace yh := hLh.lt
  replace how := how.below hbw8
  replace hog := hog.below hbw8
  replace hoh := hoh.below hbw8
  replace hB := below_th hB hbw8
  go_wp2_with fail
  go_ret
  exact ⟨rfl, hB⟩

theorem law_Nb (w : World) (t_0 : ByteArray) (h0_0 : t_0.size ≤ 9223372036854775807) : Calls Try.prog 3 #[.string t_0] w fun e w' => e = .returned (.bool true) ∧ Below w.heap.size w w' := by
  refine (Classical.em (t_0.size ≤ 1048576)).elim (fun c0 => ?_) (fun c0 => law_Nb_bigr0 w t_0 h0_0  (by omega))
  exact law_Nb_small w t_0 h0_0 c0

end Go.Proofs.Ytehomfbehhlhmaa
