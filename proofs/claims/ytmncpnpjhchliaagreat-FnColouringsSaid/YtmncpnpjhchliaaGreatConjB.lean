/-
  What the program's and the reference's ConjugateBraid compute.
  No condition but bounds on lengths.
-/
import Derived.Test.YtmncpnpjhchliaaGreatBase
import Derived.Test.YtmncpnpjhchliaaGreatBase2
import Derived.Deep.RegionHeld3
namespace Go.Proofs.YtmncpnpjhchliaaGreat
set_option maxRecDepth 100000
set_option linter.unusedVariables false
set_option linter.unusedSimpArgs false
open Go.RowKit

set_option maxHeartbeats 1000000 in
theorem impl_Conj_no (s : Int) (a : Option Addr) (n c : Nat) (xs : List Int) (g : Int) (w : World) (h1 : Row w a n xs) (hm : n ≤ 9223372036854775807) (hs : I64 s) (hb : isBr s xs = false) :
    Calls Tryz.prog 14 #[bAgg s a n c, .int .i64 g] w (RetB w 0 [] 1) := by
  have HB := Lib.hid hb; clear hb
  go_enter Tryz.func14, Tryz.ntmps14
  go_wp2_with fail
  refine (isBraid_any _ _ _ _ xs _ ((h1.alloc _).alloc _) hm).mono ?_
  rintro e w1 ⟨rfl, hb1⟩
  rw [HB.out]
  have hA : Loc w1 w.heap.size _ _ := ((Loc.new _ (by simp) _ _).alloc _).below hb1 (by simp <;> omega)
  have hR : Loc w1 (w.heap.size + 1) _ _ := (Loc.new _ (by simp) _ _).below hb1 (by simp)
  have hr1 := ((h1.alloc _).alloc _).below hb1
  have hB1 : Below w.heap.size w w1 := below_alth (below_al (Below.refl _ _) _) hb1
  have lA := hA.two
  have lR := hR.two
  have z1 : w.heap.size + 1 < w1.heap.size := hR.lt
  have z0 : w.heap.size < w1.heap.size := hA.lt
  clear h1 hb1
  go_wp2
  refine bodyPost_ret (v := .tuple #[bAgg 0 none 0 0, .int .i64 1]) (by simp [results, Tryz.results14, go_sem, lR]) rfl ⟨none, 0, 0, rfl, Own.nil _ _, ?_⟩
  exact ((hB1.setCell (by simp) _).setCell (by simp) _)

set_option maxHeartbeats 1000000 in
theorem impl_Conj_range (s : Int) (a : Option Addr) (n c : Nat) (xs : List Int) (g : Int) (w : World) (h1 : Row w a n xs) (hm : n ≤ 9223372036854775807) (hs : I64 s) (hb : isBr s xs = true) (hg : isLet s g = false) :
    Calls Tryz.prog 14 #[bAgg s a n c, .int .i64 g] w (RetB w 0 [] 2) := by
  obtain ⟨h26, h30, hlet⟩ := isBr_let hb
  have hl := h1.len
  have hn30 : n ≤ 30 := by omega
  have HLet := Lib.hid hlet; clear hlet
  have HB := Lib.hid hb; clear hb
  have HL := Lib.hid hl; clear hl
  have hcc : ∀ w', Calls Tryz.prog 46 #[.int .i64 s, .int .i64 g] w' fun e w'' => e = .returned (.bool false) ∧ w' = w'' := fun w' => (isLetter_any s g w' (by omega) (by omega)).mono fun e w'' ⟨he, hw⟩ => ⟨he.trans (ret_bool hg), hw⟩
  have HC := Lib.hid hcc; clear hcc
  clear hg
  go_enter Tryz.func14, Tryz.ntmps14
  go_wp2_with fail
  refine (isBraid_any _ _ _ _ xs _ ((h1.alloc _).alloc _) hm).mono ?_
  rintro e w1 ⟨rfl, hb1⟩
  rw [HB.out]
  have hA : Loc w1 w.heap.size _ _ := ((Loc.new _ (by simp) _ _).alloc _).below hb1 (by simp <;> omega)
  have hR : Loc w1 (w.heap.size + 1) _ _ := (Loc.new _ (by simp) _ _).below hb1 (by simp)
  have hr1 := ((h1.alloc _).alloc _).below hb1
  have hB1 : Below w.heap.size w w1 := below_alth (below_al (Below.refl _ _) _) hb1
  have lA := hA.two
  have lR := hR.two
  have z1 : w.heap.size + 1 < w1.heap.size := hR.lt
  have z0 : w.heap.size < w1.heap.size := hA.lt
  clear h1 hb1
  go_wp2_with fail
  refine (HC.out _).mono ?_
  rintro e w' ⟨rfl, rfl⟩
  go_wp2
  refine bodyPost_ret (v := .tuple #[bAgg 0 none 0 0, .int .i64 2]) (by simp [results, Tryz.results14, go_sem, lR]) rfl ⟨none, 0, 0, rfl, Own.nil _ _, ?_⟩
  exact ((hB1.setCell (by simp) _).setCell (by simp) _)

set_option maxHeartbeats 1000000 in
theorem impl_Conj_limit (s : Int) (a : Option Addr) (n c : Nat) (xs : List Int) (g : Int) (w : World) (h1 : Row w a n xs) (hm : n ≤ 9223372036854775807) (hs : I64 s) (hb : isBr s xs = true) (hg : isLet s g = true) (h28 : 28 < n) :
    Calls Tryz.prog 14 #[bAgg s a n c, .int .i64 g] w (RetB w 0 [] 3) := by
  obtain ⟨h26, h30, hlet⟩ := isBr_let hb
  have hl := h1.len
  have hn30 : n ≤ 30 := by omega
  have HLet := Lib.hid hlet; clear hlet
  have HB := Lib.hid hb; clear hb
  have HL := Lib.hid hl; clear hl
  have hcc : ∀ w', Calls Tryz.prog 46 #[.int .i64 s, .int .i64 g] w' fun e w'' => e = .returned (.bool true) ∧ w' = w'' := fun w' => (isLetter_any s g w' (by omega) (by omega)).mono fun e w'' ⟨he, hw⟩ => ⟨he.trans (ret_bool hg), hw⟩
  have HC := Lib.hid hcc; clear hcc
  clear hg
  go_enter Tryz.func14, Tryz.ntmps14
  go_wp2_with fail
  refine (isBraid_any _ _ _ _ xs _ ((h1.alloc _).alloc _) hm).mono ?_
  rintro e w1 ⟨rfl, hb1⟩
  rw [HB.out]
  have hA : Loc w1 w.heap.size _ _ := ((Loc.new _ (by simp) _ _).alloc _).below hb1 (by simp <;> omega)
  have hR : Loc w1 (w.heap.size + 1) _ _ := (Loc.new _ (by simp) _ _).below hb1 (by simp)
  have hr1 := ((h1.alloc _).alloc _).below hb1
  have hB1 : Below w.heap.size w w1 := below_alth (below_al (Below.refl _ _) _) hb1
  have lA := hA.two
  have lR := hR.two
  have z1 : w.heap.size + 1 < w1.heap.size := hR.lt
  have z0 : w.heap.size < w1.heap.size := hA.lt
  clear h1 hb1
  go_wp2_with fail
  refine (HC.out _).mono ?_
  rintro e w' ⟨rfl, rfl⟩
  go_wp2
  refine bodyPost_ret (v := .tuple #[bAgg 0 none 0 0, .int .i64 3]) (by simp [results, Tryz.results14, go_sem, lR]) rfl ⟨none, 0, 0, rfl, Own.nil _ _, ?_⟩
  exact ((hB1.setCell (by simp) _).setCell (by simp) _)

set_option maxHeartbeats 1000000 in
theorem impl_Conj_ok (s : Int) (a : Option Addr) (n c : Nat) (xs : List Int) (g : Int) (w : World) (h1 : Row w a n xs) (hm : n ≤ 9223372036854775807) (hs : I64 s) (hb : isBr s xs = true) (hg : isLet s g = true) (h28 : n ≤ 28) :
    Calls Tryz.prog 14 #[bAgg s a n c, .int .i64 g] w (RetB w s ([g] ++ xs ++ [-g]) 0) := by
  obtain ⟨h26, h30, hlet⟩ := isBr_let hb
  have hl := h1.len
  have hn30 : n ≤ 30 := by omega
  have HLet := Lib.hid hlet; clear hlet
  have HB := Lib.hid hb; clear hb
  have HL := Lib.hid hl; clear hl
  have e1 : wrap64 (1 - s) = 1 - s := IntWalk.wrap64_in _ ⟨by omega, by omega⟩
  have e2 : wrap64 (s - 1) = s - 1 := IntWalk.wrap64_in _ ⟨by omega, by omega⟩
  have hg' := hg
  simp only [isLet, e1, e2, Bool.and_eq_true, Bool.and_eq_false_iff, decide_eq_true_eq, decide_eq_false_iff_not] at hg'
  clear e1 e2
  have hw1 : IntKind.i64.wrap (-g) = -g := IntWalk.i64_in _ (by omega)
  have HW1 := Lib.hid hw1; clear hw1
  have hcc : ∀ w', Calls Tryz.prog 46 #[.int .i64 s, .int .i64 g] w' fun e w'' => e = .returned (.bool true) ∧ w' = w'' := fun w' => (isLetter_any s g w' (by omega) (by omega)).mono fun e w'' ⟨he, hw⟩ => ⟨he.trans (ret_bool hg), hw⟩
  have HC := Lib.hid hcc; clear hcc
  clear hg hg'
  go_enter Tryz.func14, Tryz.ntmps14
  go_wp2_with fail
  refine (isBraid_any _ _ _ _ xs _ ((h1.alloc _).alloc _) hm).mono ?_
  rintro e w1 ⟨rfl, hb1⟩
  rw [HB.out]
  have hA : Loc w1 w.heap.size _ _ := ((Loc.new _ (by simp) _ _).alloc _).below hb1 (by simp <;> omega)
  have hR : Loc w1 (w.heap.size + 1) _ _ := (Loc.new _ (by simp) _ _).below hb1 (by simp)
  have hr1 := ((h1.alloc _).alloc _).below hb1
  have hB1 : Below w.heap.size w w1 := below_alth (below_al (Below.refl _ _) _) hb1
  have lA := hA.two
  have lR := hR.two
  have z1 : w.heap.size + 1 < w1.heap.size := hR.lt
  have z0 : w.heap.size < w1.heap.size := hA.lt
  clear h1 hb1
  go_wp2_with fail
  refine (HC.out _).mono ?_
  rintro e w' ⟨rfl, rfl⟩
  go_wp2_with fail
  have hw1 := HW1.out
  have hfl : ([[g], xs, [-g]] : List (List Int)).flatten = [g] ++ xs ++ [-g] := by simp
  have HF := Lib.hid hfl; clear hfl
  have hfl2 : ([[g], xs, [-g]] : List (List Int)).flatten.length ≤ 1000000000 := by
    have := HL.out
    simp; omega
  go_region_held3 (fun w' => w'.cell? ⟨w.heap.size, 0, none⟩ = some (.int .i64 s) ∧ w'.cell? ⟨w.heap.size, 1, none⟩ = some (.slice a n c))
    (first | exact ⟨lA2.1, lA2.2.1⟩ | exact ⟨(((hA.alloc _).alloc _).alloc _).cell 0 rfl, (((hA.alloc _).alloc _).alloc _).cell 1 rfl⟩ | go_keep)
    (first
    | (go_at_call 47; refine (concat_any _ _ _ [[g], xs, [-g]] _ (by first | exact (tbl3 (Loc.new _ (by simp) _ _) (((Row.one w1 (by simp) g _).alloc _).alloc _) (((hr1.alloc _).alloc _).alloc _) ((Row.one _ (by simp) (-g) _).alloc _) (by omega) (by omega) (by omega)).drewN 1 | exact (tbl3 (Loc.new _ (by simp) _ _) ((Row.one _ (by simp) g _).alloc _) (((hr1.alloc _).alloc _).alloc _) (((Row.one w1 (by simp) (-g) _).alloc _).alloc _) (by omega) (by omega) (by omega)).drewN 1) (by omega) hfl2).mono ?_; rintro e w2 ⟨a', n', c', rfl, ho, hb2⟩; rw [HF.out] at ho; have hA2 : Loc w2 w.heap.size _ _ := (by first | exact ((((hA.alloc _).alloc _).alloc _).drewN 1).below hb2 (by simp <;> omega)); have hR2 : Loc w2 (w.heap.size + 1) _ _ := (by first | exact ((((hR.alloc _).alloc _).alloc _).drewN 1).below hb2 (by simp <;> omega)); have lA2 := hA2.two; have lR2 := hR2.two; have hB2 : Below w.heap.size w w2 := below_th (below_drewN (below_al (below_al (below_al hB1 _) _) _) 1) hb2))
  all_goals
    go_wp2
    refine bodyPost_ret (v := .tuple #[bAgg s a' n' c', .int .i64 0]) (by simp [results, Tryz.results14, go_sem, lR2]) rfl ⟨_, _, c', rfl, ?_, ?_⟩
    · exact ((ho.setlo (by first | omega | (simp <;> omega)) _).setlo (by first | omega | (simp <;> omega)) _).mono (by first | omega | (simp <;> omega))
    · exact (hB2.setCell (by simp) _).setCell (by simp) _

/-- what ConjugateBraid answers: strands, word, code -/
def conjF (s : Int) (xs : List Int) (g : Int) : Int × List Int × Int :=
  if isBr s xs then (if isLet s g then (if xs.length ≤ 28 then (s, [g] ++ xs ++ [-g], 0) else (0, [], 3)) else (0, [], 2)) else (0, [], 1)
theorem Conj_len (s : Int) (xs : List Int) (g : Int) : (conjF s xs g).2.1.length ≤ 2000 := by
  unfold conjF
  split
  · split
    · split
      · simp; omega
      · simp
    · simp
  · simp
theorem impl_Conj_any (s : Int) (a : Option Addr) (n c : Nat) (xs : List Int) (g : Int) (w : World) (h1 : Row w a n xs) (hm : n ≤ 9223372036854775807) (hs : I64 s) (hg : I64 g) :
    Calls Tryz.prog 14 #[bAgg s a n c, .int .i64 g] w (RetB w (conjF s xs g).1 (conjF s xs g).2.1 (conjF s xs g).2.2) := by
  unfold conjF
  cases h : isBr s xs with
  | true =>
    rw [if_pos rfl]
    cases hg : isLet s g with
    | true =>
      rw [if_pos rfl]
      by_cases h28 : xs.length ≤ 28
      · rw [if_pos h28]
        exact impl_Conj_ok s a n c xs g w h1 hm hs h hg (by have := h1.len; omega)
      · rw [if_neg h28]
        exact impl_Conj_limit s a n c xs g w h1 hm hs h hg (by have := h1.len; omega)
    | false => exact impl_Conj_range s a n c xs g w h1 hm hs h hg
  | false => exact impl_Conj_no s a n c xs g w h1 hm hs h

end Go.Proofs.YtmncpnpjhchliaaGreat
