/-
  The walk of the law of NewDesk: it answers true.
  No condition.
-/
import Derived.Test.YthkpdodhkgdiaaaNdB
import Derived.Test.YthkpdodhkgdiaaaUDS
import Derived.Test.YthkpdodhkgdiaaaOpen
import Derived.Deep.RegionHeld3
namespace Go.Proofs.Ythkpdodhkgdiaaa
set_option maxRecDepth 100000
set_option linter.unusedVariables false
set_option linter.unusedSimpArgs false
open Go.RowKit

set_option maxHeartbeats 8000000 in
theorem law_Nd_small (w : World)    : Calls Try.prog 5 #[] w fun e w' => e = .returned (.bool true) ∧ Below w.heap.size w w' := by
  obtain ⟨rd0, rd1, rd2, rd3, rd4, hlen, HS, HI⟩ : ∃ (rd0 : List (List Int)) (rd1 : List (List Int)) (rd2 : List (List Int)) (rd3 : Int) (rd4 : List Int), tot rd0 + tot rd1 + tot rd2 + List.length rd4 ≤ 1000000 ∧ Hid (∀ (w' : World) , Calls Try.prog 22 #[] w' (RetD0 w' rd0 rd1 rd2 rd3 rd4)) ∧ Hid (∀ (w' : World) , Calls Try.prog 23 #[] w' (RetD0 w' rd0 rd1 rd2 rd3 rd4)) :=
    ⟨_, _, _, _, _, Nd_len , Lib.hid fun w'  => spec_Nd_l  w' , Lib.hid fun w'  => impl_Nd_l  w' ⟩
  go_enter Try.func5, Try.ntmps5
  have hB : Below w.heap.size w w := Below.refl _ _
  go_wp2_with fail
  refine (HS.out _  ).mono ?_
  rintro e w1 ⟨aw, nw, cw, a'w, n'w, c'w, arw, nrw, crw, abw, nbw, cbw, vsw, vs'w, vsrw, rfl, how, hbw1⟩
  have zw1 : w.heap.size ≤ w1.heap.size := hbw1.size
  replace hB := below_th hB hbw1
  have low : ∀ g, DskS aw nw vsw a'w n'w vs'w arw nrw vsrw abw g → w.heap.size ≤ g := how.uLo
  have hiw : ∀ g, DskS aw nw vsw a'w n'w vs'w arw nrw vsrw abw g → g < w1.heap.size := how.uHi
  have cpw := how.cap
  have lnw : nbw ≤ 1000000 := by have := how.dsk.b.len; omega
  go_wp2_with fail
  refine (HI.out _  ).mono ?_
  rintro e w2 ⟨ag, ng, cg, a'g, n'g, c'g, arg, nrg, crg, abg, nbg, cbg, vsg, vs'g, vsrg, rfl, hog, hbw2⟩
  have zw2 : w1.heap.size + 1 ≤ w2.heap.size := by have := hbw2.size; simpa using this
  have hLw : Loc _ (w1.heap.size) _ _ := (Loc.new _ (by simp) _ _).below hbw2 (by first | omega | (simp; done) | (simp; omega))
  have lw := hLw.cells5
  have yw := hLw.lt
  replace how := (how.alloc _).below hbw2
  replace hB := below_th (below_al hB _) hbw2
  have log : ∀ g, DskS ag ng vsg a'g n'g vs'g arg nrg vsrg abg g → w1.heap.size + 1 ≤ g := fun g hg => by have := hog.uLo g hg; simpa using this
  have hig : ∀ g, DskS ag ng vsg a'g n'g vs'g arg nrg vsrg abg g → g < w2.heap.size := hog.uHi
  have cpg := hog.cap
  have lng : nbg ≤ 1000000 := by have := hog.dsk.b.len; omega
  go_wp2_with fail
  refine (eqDesk_u ((hog.alloc _).dsk) ((how.alloc _).dsk) (by omega)).mono ?_
  rintro e w3 ⟨rfl, hbw3⟩
  have zw3 : w2.heap.size + 1 ≤ w3.heap.size := by have := hbw3.size; simpa using this
  replace hLw := (hLw.alloc _).below hbw3 (hLw.alloc _).lt
  replace lw := hLw.cells5
  replace yw := hLw.lt
  have hLg : Loc _ (w2.heap.size) _ _ := (Loc.new _ (by simp) _ _).below hbw3 (by first | omega | (simp; done) | (simp; omega))
  have lg := hLg.cells5
  have yg := hLg.lt
  replace how := (how.alloc _).below hbw3
  replace hog := (hog.alloc _).below hbw3
  replace hB := below_th (below_al hB _) hbw3
  have hk1 : decide ((1 : Int) + ((tot rd0 : Nat) : Int) + ((tot rd1 : Nat) : Int) + ((tot rd2 : Nat) : Int) + (nbg : Int) < 0) = false := decide_eq_false (by omega)
  have hne1 : ((1 : Int) + ((tot rd0 : Nat) : Int) + ((tot rd1 : Nat) : Int) + ((tot rd2 : Nat) : Int) + (nbg : Int) != (1 : Int) + ((tot rd0 : Nat) : Int) + ((tot rd1 : Nat) : Int) + ((tot rd2 : Nat) : Int) + (nbg : Int)) = false := by simp
  go_wp2_with fail
  refine (markDesk_u hog (by omega) (by omega)).mono ?_
  rintro e w4 ⟨rfl, hxg, hmw4⟩
  have zw4 : w3.heap.size ≤ w4.heap.size := hmw4.size
  replace hLw := hLw.marked hmw4 (fun h2 => by have e1 := log _ h2; have e2 := hig _ h2; omega)
  replace lw := hLw.cells5
  replace yw := hLw.lt
  replace hLg := hLg.marked hmw4 (fun h2 => by have e1 := log _ h2; have e2 := hig _ h2; omega)
  replace lg := hLg.cells5
  replace yg := hLg.lt
  replace how := how.uKeep hmw4 (fun g h1 h2 => by have e1 := log _ h2; have e2 := hig _ h2; have e3 := low _ h1; have e4 := hiw _ h1; omega)
  replace hog := hxg
  replace hB := Marked.below hB hmw4 hB.size (fun k h2 => by have e1 := log _ h2; omega)
  go_wp2_with fail
  refine (heldDesk_u (hog.dsk) (by omega) (by omega) (by omega)).mono ?_
  rintro e w5 ⟨rfl, hbw5⟩
  have zw5 : w4.heap.size ≤ w5.heap.size := hbw5.size
  replace hLw := hLw.below hbw5 hLw.lt
  replace lw := hLw.cells5
  replace yw := hLw.lt
  replace hLg := hLg.below hbw5 hLg.lt
  replace lg := hLg.cells5
  replace yg := hLg.lt
  replace how := how.below hbw5
  replace hog := hog.below hbw5
  replace hB := below_th hB hbw5
  go_wp2_with fail
  refine (HI.out _  ).mono ?_
  rintro e w6 ⟨ah, nh, ch, a'h, n'h, c'h, arh, nrh, crh, abh, nbh, cbh, vsh, vs'h, vsrh, rfl, hoh, hbw6⟩
  have zw6 : w5.heap.size ≤ w6.heap.size := hbw6.size
  replace hLw := hLw.below hbw6 hLw.lt
  replace lw := hLw.cells5
  replace yw := hLw.lt
  replace hLg := hLg.below hbw6 hLg.lt
  replace lg := hLg.cells5
  replace yg := hLg.lt
  replace how := how.below hbw6
  replace hog := hog.below hbw6
  replace hB := below_th hB hbw6
  have loh : ∀ g, DskS ah nh vsh a'h n'h vs'h arh nrh vsrh abh g → w5.heap.size ≤ g := hoh.uLo
  have hih : ∀ g, DskS ah nh vsh a'h n'h vs'h arh nrh vsrh abh g → g < w6.heap.size := hoh.uHi
  have cph := hoh.cap
  have lnh : nbh ≤ 1000000 := by have := hoh.dsk.b.len; omega
  go_wp2_with fail
  refine (eqDesk_u ((hoh.alloc _).dsk) ((how.alloc _).dsk) (by omega)).mono ?_
  rintro e w7 ⟨rfl, hbw7⟩
  have zw7 : w6.heap.size + 1 ≤ w7.heap.size := by have := hbw7.size; simpa using this
  replace hLw := (hLw.alloc _).below hbw7 (hLw.alloc _).lt
  replace lw := hLw.cells5
  replace yw := hLw.lt
  replace hLg := (hLg.alloc _).below hbw7 (hLg.alloc _).lt
  replace lg := hLg.cells5
  replace yg := hLg.lt
  have hLh : Loc _ (w6.heap.size) _ _ := (Loc.new _ (by simp) _ _).below hbw7 (by first | omega | (simp; done) | (simp; omega))
  have lh := hLh.cells5
  have yh := hLh.lt
  replace how := (how.alloc _).below hbw7
  replace hog := (hog.alloc _).below hbw7
  replace hoh := (hoh.alloc _).below hbw7
  replace hB := below_th (below_al hB _) hbw7
  go_wp2_with fail
  refine (heldDesk_u (hog.dsk) (by omega) (by omega) (by omega)).mono ?_
  rintro e w8 ⟨rfl, hbw8⟩
  have zw8 : w7.heap.size ≤ w8.heap.size := hbw8.size
  replace hLw := hLw.below hbw8 hLw.lt
  replace lw := hLw.cells5
  replace yw := hLw.lt
  replace hLg := hLg.below hbw8 hLg.lt
  replace lg := hLg.cells5
  replace yg := hLg.lt
  replace hLh := hLh.below hbw8 hLh.lt
  replace lh := hLh.cells5
  replace yh := hLh.lt
  replace how := how.below hbw8
  replace hog := hog.below hbw8
  replace hoh := hoh.below hbw8
  replace hB := below_th hB hbw8
  go_wp2_with fail
  go_ret
  exact ⟨rfl, hB⟩

theorem law_Nd (w : World)  : Calls Try.prog 5 #[] w fun e w' => e = .returned (.bool true) ∧ Below w.heap.size w w' := by
  exact law_Nd_small w   

end Go.Proofs.Ythkpdodhkgdiaaa
