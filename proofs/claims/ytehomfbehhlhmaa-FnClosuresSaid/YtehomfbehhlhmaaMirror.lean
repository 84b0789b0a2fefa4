/-
  What the program's and the reference's MirrorBraid compute.
  No condition but bounds on lengths.
-/
import Derived.Test.YtehomfbehhlhmaaBraid
import Derived.Test.YtehomfbehhlhmaaSlices
import Derived.Test.YtehomfbehhlhmaaOpp
namespace Go.Proofs.Ytehomfbehhlhmaa
set_option maxRecDepth 100000
set_option linter.unusedVariables false
set_option linter.unusedSimpArgs false
open Go.RowKit

set_option maxHeartbeats 400000 in
theorem impl_Mirror_no (s : Int) (a : Option Addr) (n c : Nat) (xs : List Int) (w : World) (h1 : Row w a n xs) (hm : n ≤ 9223372036854775807) (hb : isBr s xs = false) :
    Calls Try.prog 39 #[bAgg s a n c] w (RetB w 0 [] 1) := by
  have HB := Lib.hid hb; clear hb
  go_enter Try.func39, Try.ntmps39
  go_wp2_with fail
  refine (isBraid_any _ _ _ _ xs _ ((h1.alloc _).alloc _) hm).mono ?_
  rintro e w1 ⟨rfl, hb1⟩
  rw [HB.out]
  have hR : Loc w1 (w.heap.size + 1) _ _ := (Loc.new _ (by simp) _ _).below hb1 (by simp)
  have hB1 : Below w.heap.size w w1 := below_alth (below_al (Below.refl _ _) _) hb1
  have lR := hR.two
  go_wp2
  refine bodyPost_ret (v := .tuple #[bAgg 0 none 0 0, .int .i64 1]) (by simp [results, Try.results39, go_sem, lR]) rfl ⟨none, 0, 0, rfl, Own.nil _ _, ?_⟩
  exact ((hB1.setCell (by simp) _).setCell (by simp) _)

set_option maxHeartbeats 400000 in
theorem impl_Mirror_ok (s : Int) (a : Option Addr) (n c : Nat) (xs : List Int) (w : World) (h1 : Row w a n xs) (hb : isBr s xs = true) :
    Calls Try.prog 39 #[bAgg s a n c] w (RetB w s (negL xs) 0) := by
  obtain ⟨h26, h30, hlet⟩ := isBr_let hb
  have hn30 : n ≤ 30 := by have := h1.len; omega
  have HX := Lib.hid (show ∀ x ∈ xs, -1000 ≤ x ∧ x ≤ 1000 from fun x hx => by have := hlet x hx; omega); clear hlet
  have HB := Lib.hid hb; clear hb
  go_enter Try.func39, Try.ntmps39
  go_wp2_with fail
  refine (isBraid_any _ _ _ _ xs _ ((h1.alloc _).alloc _) (by omega)).mono ?_
  rintro e w1 ⟨rfl, hb1⟩
  rw [HB.out]
  have hA : Loc w1 w.heap.size _ _ := ((Loc.new _ (by simp) _ _).alloc _).below hb1 (by simp <;> omega)
  have hR : Loc w1 (w.heap.size + 1) _ _ := (Loc.new _ (by simp) _ _).below hb1 (by simp)
  have hB1 : Below w.heap.size w w1 := below_alth (below_al (Below.refl _ _) _) hb1
  have hr1 := ((h1.alloc _).alloc _).below hb1
  have lA := hA.two
  have lR := hR.two
  clear h1 hb1
  go_wp2
  go_region_with (go_at_call 107; refine (opposites_any _ _ _ xs _ (by first | exact hr1 | exact hr1.drewN 1) (by omega) HX.out).mono ?_; rintro e w2 ⟨a', c', rfl, ho, hb2⟩; have hA2 := (hA.drewN 1).below hb2 hA.lt; have hR2 := (hR.drewN 1).below hb2 hR.lt; have lA2 := hA2.two; have lR2 := hR2.two)
  all_goals
    go_wp2
    refine bodyPost_ret (v := .tuple #[bAgg s a' n c', .int .i64 0]) (by simp [results, Try.results39, go_sem, lR2]) rfl ⟨a', n, c', rfl, ?_, ?_⟩
    · have hz := hR.lt
      exact ((ho.setlo (by first | omega | (simp <;> omega)) _).setlo (by first | omega | (simp <;> omega)) _).mono (by first | omega | (simp <;> omega))
    · exact ((below_th hB1 ((Below.drew (Below.refl _ _)).trans hb2)).setCell (by simp) _).setCell (by simp) _

theorem impl_Mirror_any (s : Int) (a : Option Addr) (n c : Nat) (xs : List Int) (w : World) (h1 : Row w a n xs) (hm : n ≤ 9223372036854775807) (hs : I64 s) :
    Calls Try.prog 39 #[bAgg s a n c] w (RetB w (if isBr s xs then s else 0) (if isBr s xs then negL xs else []) (if isBr s xs then 0 else 1)) := by
  cases h : isBr s xs with
  | true => exact impl_Mirror_ok s a n c xs w h1 h
  | false => exact impl_Mirror_no s a n c xs w h1 hm h

theorem Mirror_len (s : Int) (xs : List Int) : (if isBr s xs then negL xs else []).length ≤ 2000 := by
  split
  · rename_i h
    have := (isBr_let h).2.1
    rw [negL_len]; omega
  · simp

end Go.Proofs.Ytehomfbehhlhmaa
