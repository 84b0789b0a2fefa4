/-
  What the program's and the reference's StabilizeBraid compute.
  No condition but bounds on lengths.
-/
import Derived.Test.YtmncpnpjhchliaaGreatBase
import Derived.Deep.RegionHeld3
namespace Go.Proofs.YtmncpnpjhchliaaGreat
set_option maxRecDepth 100000
set_option linter.unusedVariables false
set_option linter.unusedSimpArgs false
open Go.RowKit

set_option maxHeartbeats 1000000 in
theorem impl_Stab_no (s : Int) (a : Option Addr) (n c : Nat) (xs : List Int) (g : Int) (w : World) (h1 : Row w a n xs) (hm : n ≤ 9223372036854775807) (hs : I64 s) (hb : isBr s xs = false) :
    Calls Tryz.prog 18 #[bAgg s a n c, .int .i64 g] w (RetB w 0 [] 1) := by
  have HB := Lib.hid hb; clear hb
  go_enter Tryz.func18, Tryz.ntmps18
  go_wp2_with fail
  refine (isBraid_any _ _ _ _ xs _ ((h1.alloc _).alloc _) hm).mono ?_
  rintro e w1 ⟨rfl, hb1⟩
  rw [HB.out]
  have hA : Loc w1 w.heap.size _ _ := ((Loc.new _ (by simp) _ _).alloc _).below hb1 (by simp <;> omega)
  have hR : Loc w1 (w.heap.size + 1) _ _ := (Loc.new _ (by simp) _ _).below hb1 (by simp)
  have hr1 := ((h1.alloc _).alloc _).below hb1
  have hB1 : Below w.heap.size w w1 := below_alth (below_al (Below.refl _ _) _) hb1
  have lA := hA.two
  have lR := hR.two
  have z1 : w.heap.size + 1 < w1.heap.size := hR.lt
  have z0 : w.heap.size < w1.heap.size := hA.lt
  clear h1 hb1
  go_wp2
  refine bodyPost_ret (v := .tuple #[bAgg 0 none 0 0, .int .i64 1]) (by simp [results, Tryz.results18, go_sem, lR]) rfl ⟨none, 0, 0, rfl, Own.nil _ _, ?_⟩
  exact ((hB1.setCell (by simp) _).setCell (by simp) _)

set_option maxHeartbeats 1000000 in
theorem impl_Stab_range (s : Int) (a : Option Addr) (n c : Nat) (xs : List Int) (g : Int) (w : World) (h1 : Row w a n xs) (hm : n ≤ 9223372036854775807) (hs : I64 s) (hb : isBr s xs = true) (hg1 : g ≠ 1) (hg2 : g ≠ -1) :
    Calls Tryz.prog 18 #[bAgg s a n c, .int .i64 g] w (RetB w 0 [] 2) := by
  have HB := Lib.hid hb; clear hb
  have b1 : (g != 1) = true := by simpa using hg1
  have b2 : (g != -1) = true := by simpa using hg2
  clear hg1 hg2
  go_enter Tryz.func18, Tryz.ntmps18
  go_wp2_with fail
  refine (isBraid_any _ _ _ _ xs _ ((h1.alloc _).alloc _) hm).mono ?_
  rintro e w1 ⟨rfl, hb1⟩
  rw [HB.out]
  have hA : Loc w1 w.heap.size _ _ := ((Loc.new _ (by simp) _ _).alloc _).below hb1 (by simp <;> omega)
  have hR : Loc w1 (w.heap.size + 1) _ _ := (Loc.new _ (by simp) _ _).below hb1 (by simp)
  have hr1 := ((h1.alloc _).alloc _).below hb1
  have hB1 : Below w.heap.size w w1 := below_alth (below_al (Below.refl _ _) _) hb1
  have lA := hA.two
  have lR := hR.two
  have z1 : w.heap.size + 1 < w1.heap.size := hR.lt
  have z0 : w.heap.size < w1.heap.size := hA.lt
  clear h1 hb1
  go_wp2
  refine bodyPost_ret (v := .tuple #[bAgg 0 none 0 0, .int .i64 2]) (by simp [results, Tryz.results18, go_sem, lR]) rfl ⟨none, 0, 0, rfl, Own.nil _ _, ?_⟩
  exact ((hB1.setCell (by simp) _).setCell (by simp) _)

set_option maxHeartbeats 1000000 in
theorem impl_Stab_six (s : Int) (a : Option Addr) (n c : Nat) (xs : List Int) (g : Int) (w : World) (h1 : Row w a n xs) (hm : n ≤ 9223372036854775807) (hs : I64 s) (hb : isBr s xs = true) (hg : g = 1 ∨ g = -1) (h6 : s = 6) :
    Calls Tryz.prog 18 #[bAgg s a n c, .int .i64 g] w (RetB w 0 [] 3) := by
  have HB := Lib.hid hb; clear hb
  have b3 : (s == 6) = true := by simpa using h6
  clear h6
  rcases hg with rfl | rfl
  · have b1 : ((1 : Int) != 1) = false := by decide
    go_enter Tryz.func18, Tryz.ntmps18
    go_wp2_with fail
    refine (isBraid_any _ _ _ _ xs _ ((h1.alloc _).alloc _) hm).mono ?_
    rintro e w1 ⟨rfl, hb1⟩
    rw [HB.out]
    have hA : Loc w1 w.heap.size _ _ := ((Loc.new _ (by simp) _ _).alloc _).below hb1 (by simp <;> omega)
    have hR : Loc w1 (w.heap.size + 1) _ _ := (Loc.new _ (by simp) _ _).below hb1 (by simp)
    have hr1 := ((h1.alloc _).alloc _).below hb1
    have hB1 : Below w.heap.size w w1 := below_alth (below_al (Below.refl _ _) _) hb1
    have lA := hA.two
    have lR := hR.two
    have z1 : w.heap.size + 1 < w1.heap.size := hR.lt
    have z0 : w.heap.size < w1.heap.size := hA.lt
    clear h1 hb1
    go_wp2
    refine bodyPost_ret (v := .tuple #[bAgg 0 none 0 0, .int .i64 3]) (by simp [results, Tryz.results18, go_sem, lR]) rfl ⟨none, 0, 0, rfl, Own.nil _ _, ?_⟩
    exact ((hB1.setCell (by simp) _).setCell (by simp) _)
  · have b1 : ((-1 : Int) != 1) = true := by decide
    have b2 : ((-1 : Int) != -1) = false := by decide
    go_enter Tryz.func18, Tryz.ntmps18
    go_wp2_with fail
    refine (isBraid_any _ _ _ _ xs _ ((h1.alloc _).alloc _) hm).mono ?_
    rintro e w1 ⟨rfl, hb1⟩
    rw [HB.out]
    have hA : Loc w1 w.heap.size _ _ := ((Loc.new _ (by simp) _ _).alloc _).below hb1 (by simp <;> omega)
    have hR : Loc w1 (w.heap.size + 1) _ _ := (Loc.new _ (by simp) _ _).below hb1 (by simp)
    have hr1 := ((h1.alloc _).alloc _).below hb1
    have hB1 : Below w.heap.size w w1 := below_alth (below_al (Below.refl _ _) _) hb1
    have lA := hA.two
    have lR := hR.two
    have z1 : w.heap.size + 1 < w1.heap.size := hR.lt
    have z0 : w.heap.size < w1.heap.size := hA.lt
    clear h1 hb1
    go_wp2
    refine bodyPost_ret (v := .tuple #[bAgg 0 none 0 0, .int .i64 3]) (by simp [results, Tryz.results18, go_sem, lR]) rfl ⟨none, 0, 0, rfl, Own.nil _ _, ?_⟩
    exact ((hB1.setCell (by simp) _).setCell (by simp) _)

set_option maxHeartbeats 1000000 in
theorem impl_Stab_long (s : Int) (a : Option Addr) (n c : Nat) (xs : List Int) (g : Int) (w : World) (h1 : Row w a n xs) (hm : n ≤ 9223372036854775807) (hs : I64 s) (hb : isBr s xs = true) (hg : g = 1 ∨ g = -1) (h6 : s ≠ 6) (h30 : n = 30) :
    Calls Tryz.prog 18 #[bAgg s a n c, .int .i64 g] w (RetB w 0 [] 3) := by
  have HB := Lib.hid hb; clear hb
  have b3 : (s == 6) = false := by simpa using h6
  have b4 : ((n : Int) == 30) = true := by simp; omega
  clear h6 h30
  rcases hg with rfl | rfl
  · have b1 : ((1 : Int) != 1) = false := by decide
    go_enter Tryz.func18, Tryz.ntmps18
    go_wp2_with fail
    refine (isBraid_any _ _ _ _ xs _ ((h1.alloc _).alloc _) hm).mono ?_
    rintro e w1 ⟨rfl, hb1⟩
    rw [HB.out]
    have hA : Loc w1 w.heap.size _ _ := ((Loc.new _ (by simp) _ _).alloc _).below hb1 (by simp <;> omega)
    have hR : Loc w1 (w.heap.size + 1) _ _ := (Loc.new _ (by simp) _ _).below hb1 (by simp)
    have hr1 := ((h1.alloc _).alloc _).below hb1
    have hB1 : Below w.heap.size w w1 := below_alth (below_al (Below.refl _ _) _) hb1
    have lA := hA.two
    have lR := hR.two
    have z1 : w.heap.size + 1 < w1.heap.size := hR.lt
    have z0 : w.heap.size < w1.heap.size := hA.lt
    clear h1 hb1
    go_wp2
    refine bodyPost_ret (v := .tuple #[bAgg 0 none 0 0, .int .i64 3]) (by simp [results, Tryz.results18, go_sem, lR]) rfl ⟨none, 0, 0, rfl, Own.nil _ _, ?_⟩
    exact ((hB1.setCell (by simp) _).setCell (by simp) _)
  · have b1 : ((-1 : Int) != 1) = true := by decide
    have b2 : ((-1 : Int) != -1) = false := by decide
    go_enter Tryz.func18, Tryz.ntmps18
    go_wp2_with fail
    refine (isBraid_any _ _ _ _ xs _ ((h1.alloc _).alloc _) hm).mono ?_
    rintro e w1 ⟨rfl, hb1⟩
    rw [HB.out]
    have hA : Loc w1 w.heap.size _ _ := ((Loc.new _ (by simp) _ _).alloc _).below hb1 (by simp <;> omega)
    have hR : Loc w1 (w.heap.size + 1) _ _ := (Loc.new _ (by simp) _ _).below hb1 (by simp)
    have hr1 := ((h1.alloc _).alloc _).below hb1
    have hB1 : Below w.heap.size w w1 := below_alth (below_al (Below.refl _ _) _) hb1
    have lA := hA.two
    have lR := hR.two
    have z1 : w.heap.size + 1 < w1.heap.size := hR.lt
    have z0 : w.heap.size < w1.heap.size := hA.lt
    clear h1 hb1
    go_wp2
    refine bodyPost_ret (v := .tuple #[bAgg 0 none 0 0, .int .i64 3]) (by simp [results, Tryz.results18, go_sem, lR]) rfl ⟨none, 0, 0, rfl, Own.nil _ _, ?_⟩
    exact ((hB1.setCell (by simp) _).setCell (by simp) _)

set_option maxHeartbeats 1000000 in
theorem impl_Stab_ok (s : Int) (a : Option Addr) (n c : Nat) (xs : List Int) (g : Int) (w : World) (h1 : Row w a n xs) (hm : n ≤ 9223372036854775807) (hs : I64 s) (hb : isBr s xs = true) (hgs : (((g != 1) = false) ∨ ((g != 1) = true ∧ (g != -1) = false)) ∧ -1 ≤ g ∧ g ≤ 1) (h6 : s ≠ 6) (h30 : n ≠ 30) :
    Calls Tryz.prog 18 #[bAgg s a n c, .int .i64 g] w (RetB w (s + 1) (xs ++ [g * s]) 0) := by
  obtain ⟨h26, hx30, hlet⟩ := isBr_let hb
  have hl := h1.len
  have hn30 : n ≤ 30 := by omega
  have HLet := Lib.hid hlet; clear hlet
  have HB := Lib.hid hb; clear hb
  have HL := Lib.hid hl; clear hl
  have b3 : (s == 6) = false := by simpa using h6
  have b4 : ((n : Int) == 30) = false := by simp; omega
  obtain ⟨hgs, hg1, hg2⟩ := hgs
  have hgm : -6 ≤ g * s ∧ g * s ≤ 6 := by
    have : g = -1 ∨ g = 0 ∨ g = 1 := by omega
    rcases this with rfl | rfl | rfl <;> omega
  have hw1 : IntKind.i64.wrap (s + 1) = s + 1 := IntWalk.i64_in _ (by omega)
  have hw2 : IntKind.i64.wrap (g * s) = g * s := IntWalk.i64_in _ (by omega)
  have HW1 := Lib.hid hw1; have HW2 := Lib.hid hw2
  clear hw1 hw2 h6 h30
  rcases hgs with b1 | ⟨b1, b2⟩
  all_goals
    go_enter Tryz.func18, Tryz.ntmps18
    go_wp2_with fail
    refine (isBraid_any _ _ _ _ xs _ ((h1.alloc _).alloc _) hm).mono ?_
    rintro e w1 ⟨rfl, hb1⟩
    rw [HB.out]
    have hA : Loc w1 w.heap.size _ _ := ((Loc.new _ (by simp) _ _).alloc _).below hb1 (by simp <;> omega)
    have hR : Loc w1 (w.heap.size + 1) _ _ := (Loc.new _ (by simp) _ _).below hb1 (by simp)
    have hr1 := ((h1.alloc _).alloc _).below hb1
    have hB1 : Below w.heap.size w w1 := below_alth (below_al (Below.refl _ _) _) hb1
    have lA := hA.two
    have lR := hR.two
    have z1 : w.heap.size + 1 < w1.heap.size := hR.lt
    have z0 : w.heap.size < w1.heap.size := hA.lt
    clear h1 hb1
    go_wp2
    have hw1 := HW1.out
    have hw2 := HW2.out
    go_region_held3 (fun w' => w'.cell? ⟨w.heap.size, 0, none⟩ = some (.int .i64 s) ∧ w'.cell? ⟨w.heap.size, 1, none⟩ = some (.slice a n c))
      (first | exact ⟨lA3.1, lA3.2.1⟩ | exact ⟨lA2.1, lA2.2.1⟩ | go_keep)
      (first
      | (refine step_appL rfl rfl (ho.alloc _) rfl (Row.one w2 rfl (g * s) _) rfl ?_ ?_ ?_; (omega); (exact Nat.le_trans hb2.size (size_le_alloc _ _)); intro a' c' w3 hO hg3 hb3; have hR3 : Loc w3 (w.heap.size + 1) _ _ := (hR2.alloc _).below hb3 (by first | omega | (simp <;> omega)); have hA3 : Loc w3 w.heap.size _ _ := (hA2.alloc _).below hb3 (by first | omega | (simp <;> omega)); have lR3 := hR3.two; have lA3 := hA3.two; have hB3 := (below_al hB2 (.cells #[.int .i64 (g * s)] 2)).trans (hb3.mono (by first | omega | (simp <;> omega))))
      | (refine step_appL rfl rfl ho rfl hrow rfl ?_ ?_ ?_; (omega); (exact hb2.size); intro a' c' w3 hO hg3 hb3; have hR3 : Loc w3 (w.heap.size + 1) _ _ := hR2.below hb3 (by first | omega | (simp <;> omega)); have hA3 : Loc w3 w.heap.size _ _ := hA2.below hb3 (by first | omega | (simp <;> omega)); have lR3 := hR3.two; have lA3 := hA3.two; have hB3 := hB2.trans (hb3.mono (by first | omega | (simp <;> omega))))
      | (go_at_call 56; refine (clone_any _ _ _ xs _ (by first | exact hr1.drewN 1 | exact (hr1.alloc _).drewN 1) (by omega)).mono ?_; rintro e w2 ⟨a', c', rfl, ho, hb2⟩; have z2 : w1.heap.size ≤ w2.heap.size := (by have := hb2.size; simp at this; omega); (try have hrow : Row w2 (some ⟨w1.heap.size, 0, none⟩) 1 [g * s] := ((Row.one w1 rfl (g * s) 2).drewN 1).below hb2); have hA2 : Loc w2 w.heap.size _ _ := (by first | exact (hA.drewN 1).below hb2 (by simp <;> omega) | exact ((hA.alloc _).drewN 1).below hb2 (by simp <;> omega)); have hR2 : Loc w2 (w.heap.size + 1) _ _ := (by first | exact (hR.drewN 1).below hb2 (by simp <;> omega) | exact ((hR.alloc _).drewN 1).below hb2 (by simp <;> omega)); have lA2 := hA2.two; have lR2 := hR2.two; have hB2 : Below w.heap.size w w2 := (by first | exact (below_drewN hB1 1).trans (hb2.mono (by simp <;> omega)) | exact (below_drewN (below_al hB1 (.cells #[.int .i64 (g * s)] 2)) 1).trans (hb2.mono (by simp <;> omega)))))
    all_goals
      go_wp2
      refine bodyPost_ret (v := .tuple #[bAgg (s + 1) a' (n + 1) c', .int .i64 0]) (by simp [results, Tryz.results18, go_sem, lR3]) rfl ⟨a', _, c', rfl, ?_, ?_⟩
      · have hz : w.heap.size + 1 < w1.heap.size := z1
        exact ((hO.setlo (by simp <;> omega) _).setlo (by simp <;> omega) _).mono (by simp <;> omega)
      · exact (hB3.setCell (by simp) _).setCell (by simp) _


/-- what StabilizeBraid answers: strands, word, code -/
def stabF (s : Int) (xs : List Int) (g : Int) : Int × List Int × Int :=
  if isBr s xs then (if g = 1 ∨ g = -1 then (if s = 6 ∨ xs.length = 30 then (0, [], 3) else (s + 1, xs ++ [g * s], 0)) else (0, [], 2)) else (0, [], 1)
theorem Stab_len (s : Int) (xs : List Int) (g : Int) : (stabF s xs g).2.1.length ≤ 2000 := by
  unfold stabF
  split
  · rename_i h
    have := (isBr_let h).2.1
    split
    · split <;> simp
      omega
    · simp
  · simp
theorem impl_Stab_any (s : Int) (a : Option Addr) (n c : Nat) (xs : List Int) (g : Int) (w : World) (h1 : Row w a n xs) (hm : n ≤ 9223372036854775807) (hs : I64 s) (hg : I64 g) :
    Calls Tryz.prog 18 #[bAgg s a n c, .int .i64 g] w (RetB w (stabF s xs g).1 (stabF s xs g).2.1 (stabF s xs g).2.2) := by
  unfold stabF
  cases h : isBr s xs with
  | true =>
    rw [if_pos rfl]
    by_cases hg : g = 1 ∨ g = -1
    · rw [if_pos hg]
      by_cases h6 : s = 6
      · rw [if_pos (.inl h6)]
        exact impl_Stab_six s a n c xs g w h1 hm hs h hg h6
      · by_cases h30 : xs.length = 30
        · rw [if_pos (.inr h30)]
          exact impl_Stab_long s a n c xs g w h1 hm hs h hg h6 (h1.len.trans h30)
        · rw [if_neg (by rintro (h | h) <;> contradiction)]
          exact impl_Stab_ok s a n c xs g w h1 hm hs h (by rcases hg with rfl | rfl <;> decide) h6 (fun e => h30 (h1.len.symm.trans e))
    · rw [if_neg hg]
      exact impl_Stab_range s a n c xs g w h1 hm hs h (fun e => hg (.inl e)) (fun e => hg (.inr e))
  | false => exact impl_Stab_no s a n c xs g w h1 hm hs h

end Go.Proofs.YtmncpnpjhchliaaGreat
