/-
  InverseBraid: what the program's function computes.
  No condition but bounds on lengths.
-/
import Derived.Test.YtjhdbgohdmdpeaaGreatBase2
import Derived.Test.YtjhdbgohdmdpeaaGreatActP
namespace Go.Proofs.YtjhdbgohdmdpeaaGreat
set_option maxRecDepth 100000
set_option linter.unusedVariables false
set_option linter.unusedSimpArgs false
open Go.RowKit

set_option maxHeartbeats 400000 in
theorem impl_Ivb_no (s : Int) (a : Option Addr) (n c : Nat) (xs : List Int) (w : World) (h1 : Row w a n xs) (hm : n ≤ 9223372036854775807) (hb : isBr s xs = false) :
    Calls Tryz.prog 18 #[bAgg s a n c] w (RetB w 0 [] 1) := by
  have HB := Lib.hid hb; clear hb
  go_enter Tryz.func18, Tryz.ntmps18
  go_wp2_with fail
  refine (isBraid_any _ _ _ _ xs _ ((h1.alloc _).alloc _) hm).mono ?_
  rintro e w1 ⟨rfl, hb1⟩
  rw [HB.out]
  have hR : Loc w1 (w.heap.size + 1) _ _ := (Loc.new _ (by simp) _ _).below hb1 (by simp)
  have hB1 : Below w.heap.size w w1 := below_alth (below_al (Below.refl _ _) _) hb1
  have lR := hR.two
  go_wp2
  refine bodyPost_ret (v := .tuple #[bAgg 0 none 0 0, .int .i64 1]) (by simp [results, Tryz.results18, go_sem, lR]) rfl ⟨none, 0, 0, rfl, Own.nil _ _, ?_⟩
  exact ((hB1.setCell (by simp) _).setCell (by simp) _)

set_option maxHeartbeats 1000000 in
theorem impl_Ivb_ok (s : Int) (a : Option Addr) (n c : Nat) (xs : List Int) (w : World) (h1 : Row w a n xs) (hb : isBr s xs = true) :
    Calls Tryz.prog 18 #[bAgg s a n c] w (RetB w s (ivL xs) 0) := by
  obtain ⟨h26, h30, hlet⟩ := isBr_let hb
  have hl := h1.len
  have hn30 : n ≤ 30 := by omega
  have HX := Lib.hid (show ∀ x ∈ xs, -1000 ≤ x ∧ x ≤ 1000 from fun x hx => by have := hlet x hx; omega); clear hlet
  have HB := Lib.hid hb; clear hb
  have HL := Lib.hid hl; clear hl
  go_enter Tryz.func18, Tryz.ntmps18
  go_wp2_with fail
  refine (isBraid_any _ _ _ _ xs _ ((h1.alloc _).alloc _) (by omega)).mono ?_
  rintro e w1 ⟨rfl, hb1⟩
  rw [HB.out]
  have hA : Loc w1 w.heap.size _ _ := ((Loc.new _ (by simp) _ _).alloc _).below hb1 (by simp <;> omega)
  have hR : Loc w1 (w.heap.size + 1) _ _ := (Loc.new _ (by simp) _ _).below hb1 (by simp)
  have hr1 := ((h1.alloc _).alloc _).below hb1
  have hB1 : Below w.heap.size w w1 := below_alth (below_al (Below.refl _ _) _) hb1
  have lA := hA.two
  have lR := hR.two
  have z1 : w.heap.size + 1 < w1.heap.size := hR.lt
  have z0 : w.heap.size < w1.heap.size := hA.lt
  clear h1 hb1
  go_wp2_with fail
  refine (opposites_any _ _ _ xs _ hr1 (by omega) HX.out).mono ?_
  rintro e w2 ⟨a', c', rfl, ho, hb2⟩
  have hA := hA.below hb2 hA.lt
  have hR := hR.below hb2 hR.lt
  have hB2 := below_th hB1 hb2
  go_wp2_with fail
  refine (reverse_any _ _ _ _ _ _ ho).mono ?_
  rintro e w3 ⟨rfl, ho3, ht3⟩
  have hlo : ∀ k, a' = some ⟨k, 0, none⟩ → w1.heap.size ≤ k := ho.lo
  have hB3 := Touch.below hB2 ht3 (fun k h => by have := hlo k h; have := hB1.size; omega)
  have hA := (ht3.block w.heap.size (fun h => by have := hlo _ h; omega)).trans hA
  have hR := (ht3.block (w.heap.size + 1) (fun h => by have := hlo _ h; omega)).trans hR
  have hA : Loc w3 w.heap.size _ _ := hA
  have hR : Loc w3 (w.heap.size + 1) _ _ := hR
  have lA := hA.two
  have lR := hR.two
  go_wp2
  refine bodyPost_ret (v := .tuple #[bAgg s a' n c', .int .i64 0]) (by simp [results, Tryz.results18, go_sem, lR]) rfl ⟨a', _, c', rfl, ?_, ?_⟩
  · exact ((ho3.setlo (by first | omega | (simp <;> omega)) _).setlo (by first | omega | (simp <;> omega)) _).mono (by first | omega | (simp <;> omega))
  · exact (hB3.setCell (by simp) _).setCell (by simp) _
end Go.Proofs.YtjhdbgohdmdpeaaGreat
