/-
  What the program's and the reference's MirrorBraid compute.
  No condition but bounds on lengths.
-/
import Derived.Test.YtkanodiacfinmaaBraid
import Derived.Test.YtkanodiacfinmaaSlices
import Derived.Test.YtkanodiacfinmaaOpp
namespace Go.Proofs.Ytkanodiacfinmaa
set_option linter.unusedVariables false
set_option linter.unusedSimpArgs false
open Go.RowKit

set_option maxHeartbeats 1000000 in
theorem spec_Mirror_ok (s : Int) (a : Option Addr) (n c : Nat) (xs : List Int) (w : World) (h1 : Row w a n xs) (hs : I64 s) (hb : isBr s xs = true) :
    Calls Try.prog 16 #[bAgg s a n c] w (RetB w s (negL xs) 0) := by
  obtain ⟨h26, h30, hlet⟩ := isBr_let hb
  have hl := h1.len
  have hn30 : n ≤ 30 := by omega
  have HLet := Lib.hid hlet; clear hlet
  have HB := Lib.hid hb; clear hb
  have HL := Lib.hid hl; clear hl
  go_enter Try.func16, Try.ntmps16
  go_wp2_with fail
  refine (l16Is_any _ _ _ _ xs _ ((h1.alloc _).alloc _) (by omega) hs).mono ?_
  rintro e w1 ⟨rfl, hb1⟩
  rw [HB.out]
  have hA : Loc w1 w.heap.size _ _ := ((Loc.new _ (by simp) _ _).alloc _).below hb1 (by simp <;> omega)
  have hR : Loc w1 (w.heap.size + 1) _ _ := (Loc.new _ (by simp) _ _).below hb1 (by simp)
  have hr1 := ((h1.alloc _).alloc _).below hb1
  have hB1 : Below w.heap.size w w1 := below_alth (below_al (Below.refl _ _) _) hb1
  have lA := hA.two
  have lR := hR.two
  have z1 : w.heap.size + 1 < w1.heap.size := hR.lt
  clear h1 hb1
  go_wp2_with fail
  have hL0 := Loc.new w1 rfl #[.int .i64 s, .slice none 0 0] 24
  go_loopw [5] (fun i wr => ∃ (k : Nat) (a' : Option Addr) (n' c' : Nat), k ≤ n ∧ i = .int .i64 k ∧ Loc wr w.heap.size #[.int .i64 s, .slice a n c] 24 ∧ Loc wr (w.heap.size + 1) #[.int .i64 0, .slice none 0 0] 24 ∧
    Loc wr w1.heap.size #[.int .i64 s, .slice a' n' c'] 24 ∧ Own wr (w1.heap.size + 1) a' n' c' (negL (xs.take k)) ∧ Row wr a n xs ∧ Below w1.heap.size w1 wr ∧ w1.heap.size + 1 ≤ wr.heap.size) (fun i _ => n - (intOf i).toNat)
  case atStart => exact ⟨0, none, 0, 0, Nat.zero_le _, rfl, hA.alloc _, hR.alloc _, hL0, Own.nil _ _, hr1.alloc _, below_al (Below.refl _ _) _, by simp⟩
  case round =>
    clear hA hR hL0 lA lR
    obtain ⟨k, a', n', c', hk, rfl, hA, hR, hL, ho, hr, hbl, hsz⟩ := hrel
    have lA := hA.two
    have lL := hL.two
    by_cases hlt : k < n
    · obtain ⟨b, off, rfl, g1⟩ := hr.at k hlt
      have hx : k < xs.length := by have := HL.out; omega
      have hx2 := HLet.out xs[k] (List.getElem_mem hx)
      have hxb : xs[k] ≤ 5 ∧ -5 ≤ xs[k] := by omega
      have hln : n' + 1 ≤ 1000000000000 := by
        have := ho.len
        simp [negL] at this; omega
      have hzz : w1.heap.size < wr.heap.size := by omega
      clear hx2
      have hwr : IntKind.i64.wrap (-xs[k]) = -xs[k] := IntWalk.i64_in _ (by omega)
      go_wp2
      go_region_law (refine step_app1 rfl rfl ho rfl rfl hln (by omega) ?_; intro g' cc w' hO' hg' hs' hb'; have hL2 := hL.below hb' (by omega); have lL2 := hL2.two)
      all_goals
        go_wp2
        go_roundw
        case rel =>
          refine ⟨k + 1, _, _, _, by omega, by go_num, (hA.below hb' (by omega)).setne (by simp <;> omega) _, (hR.below hb' (by omega)).setne (by simp <;> omega) _, hL2.set 1 _, ?_, ?_, ?_, by rw [size_set]; omega⟩
          · rw [negL_succ hx]
            exact hO'.setlo (by simp) _
          · exact hr1.below ((hbl.trans (hb'.mono (by omega))).setCell (by simp) _)
          · exact (hbl.trans (hb'.mono (by omega))).setCell (by simp) _
        case measure => simp [intOf]; omega
    · obtain rfl : k = n := by omega
      have lR := hR.two
      have z5 : w.heap.size + 1 < wr.heap.size := hR.lt
      go_wp2
      refine bodyPost_ret (v := .tuple #[bAgg s a' n' c', .int .i64 0]) (by simp [results, Try.results16, go_sem, lL, lR]) rfl ⟨a', n', c', rfl, ?_, ?_⟩
      · rw [List.take_of_length_le (by have := HL.out; omega)] at ho
        exact ((ho.setlo (by first | omega | (simp <;> omega)) _).setlo (by first | omega | (simp <;> omega)) _).mono (by first | omega | (simp <;> omega))
      · exact ((below_th hB1 hbl).setCell (by simp) _).setCell (by simp) _


set_option maxHeartbeats 400000 in
theorem spec_Mirror_no (s : Int) (a : Option Addr) (n c : Nat) (xs : List Int) (w : World) (h1 : Row w a n xs) (hm : n ≤ 9223372036854775807) (hs : I64 s) (hb : isBr s xs = false) :
    Calls Try.prog 16 #[bAgg s a n c] w (RetB w 0 [] 1) := by
  have HB := Lib.hid hb; clear hb
  go_enter Try.func16, Try.ntmps16
  go_wp2_with fail
  refine (l16Is_any _ _ _ _ xs _ ((h1.alloc _).alloc _) hm hs).mono ?_
  rintro e w1 ⟨rfl, hb1⟩
  rw [HB.out]
  have hR : Loc w1 (w.heap.size + 1) _ _ := (Loc.new _ (by simp) _ _).below hb1 (by simp)
  have hB1 : Below w.heap.size w w1 := below_alth (below_al (Below.refl _ _) _) hb1
  have lR := hR.two
  go_wp2
  refine bodyPost_ret (v := .tuple #[bAgg 0 none 0 0, .int .i64 1]) (by simp [results, Try.results16, go_sem, lR]) rfl ⟨none, 0, 0, rfl, Own.nil _ _, ?_⟩
  exact ((hB1.setCell (by simp) _).setCell (by simp) _)

set_option maxHeartbeats 400000 in
theorem impl_Mirror_no (s : Int) (a : Option Addr) (n c : Nat) (xs : List Int) (w : World) (h1 : Row w a n xs) (hm : n ≤ 9223372036854775807) (hb : isBr s xs = false) :
    Calls Try.prog 18 #[bAgg s a n c] w (RetB w 0 [] 1) := by
  have HB := Lib.hid hb; clear hb
  go_enter Try.func18, Try.ntmps18
  go_wp2_with fail
  refine (isBraid_any _ _ _ _ xs _ ((h1.alloc _).alloc _) hm).mono ?_
  rintro e w1 ⟨rfl, hb1⟩
  rw [HB.out]
  have hR : Loc w1 (w.heap.size + 1) _ _ := (Loc.new _ (by simp) _ _).below hb1 (by simp)
  have hB1 : Below w.heap.size w w1 := below_alth (below_al (Below.refl _ _) _) hb1
  have lR := hR.two
  go_wp2
  refine bodyPost_ret (v := .tuple #[bAgg 0 none 0 0, .int .i64 1]) (by simp [results, Try.results18, go_sem, lR]) rfl ⟨none, 0, 0, rfl, Own.nil _ _, ?_⟩
  exact ((hB1.setCell (by simp) _).setCell (by simp) _)

set_option maxHeartbeats 400000 in
theorem impl_Mirror_ok (s : Int) (a : Option Addr) (n c : Nat) (xs : List Int) (w : World) (h1 : Row w a n xs) (hb : isBr s xs = true) :
    Calls Try.prog 18 #[bAgg s a n c] w (RetB w s (negL xs) 0) := by
  obtain ⟨h26, h30, hlet⟩ := isBr_let hb
  have hn30 : n ≤ 30 := by have := h1.len; omega
  have HX := Lib.hid (show ∀ x ∈ xs, -1000 ≤ x ∧ x ≤ 1000 from fun x hx => by have := hlet x hx; omega); clear hlet
  have HB := Lib.hid hb; clear hb
  go_enter Try.func18, Try.ntmps18
  go_wp2_with fail
  refine (isBraid_any _ _ _ _ xs _ ((h1.alloc _).alloc _) (by omega)).mono ?_
  rintro e w1 ⟨rfl, hb1⟩
  rw [HB.out]
  have hA : Loc w1 w.heap.size _ _ := ((Loc.new _ (by simp) _ _).alloc _).below hb1 (by simp <;> omega)
  have hR : Loc w1 (w.heap.size + 1) _ _ := (Loc.new _ (by simp) _ _).below hb1 (by simp)
  have hB1 : Below w.heap.size w w1 := below_alth (below_al (Below.refl _ _) _) hb1
  have hr1 := ((h1.alloc _).alloc _).below hb1
  have lA := hA.two
  have lR := hR.two
  clear h1 hb1
  go_wp2
  go_region_with (go_at_call 43; refine (opposites_any _ _ _ xs _ (by first | exact hr1 | exact hr1.drewN 1) (by omega) HX.out).mono ?_; rintro e w2 ⟨a', c', rfl, ho, hb2⟩; have hA2 := (hA.drewN 1).below hb2 hA.lt; have hR2 := (hR.drewN 1).below hb2 hR.lt; have lA2 := hA2.two; have lR2 := hR2.two)
  all_goals
    go_wp2
    refine bodyPost_ret (v := .tuple #[bAgg s a' n c', .int .i64 0]) (by simp [results, Try.results18, go_sem, lR2]) rfl ⟨a', n, c', rfl, ?_, ?_⟩
    · have hz := hR.lt
      exact ((ho.setlo (by first | omega | (simp <;> omega)) _).setlo (by first | omega | (simp <;> omega)) _).mono (by first | omega | (simp <;> omega))
    · exact ((below_th hB1 ((Below.drew (Below.refl _ _)).trans hb2)).setCell (by simp) _).setCell (by simp) _

theorem spec_Mirror_any (s : Int) (a : Option Addr) (n c : Nat) (xs : List Int) (w : World) (h1 : Row w a n xs) (hm : n ≤ 9223372036854775807) (hs : I64 s) :
    Calls Try.prog 16 #[bAgg s a n c] w (RetB w (if isBr s xs then s else 0) (if isBr s xs then negL xs else []) (if isBr s xs then 0 else 1)) := by
  cases h : isBr s xs with
  | true => exact spec_Mirror_ok s a n c xs w h1 hs h
  | false => exact spec_Mirror_no s a n c xs w h1 hm hs h
theorem impl_Mirror_any (s : Int) (a : Option Addr) (n c : Nat) (xs : List Int) (w : World) (h1 : Row w a n xs) (hm : n ≤ 9223372036854775807) (hs : I64 s) :
    Calls Try.prog 18 #[bAgg s a n c] w (RetB w (if isBr s xs then s else 0) (if isBr s xs then negL xs else []) (if isBr s xs then 0 else 1)) := by
  cases h : isBr s xs with
  | true => exact impl_Mirror_ok s a n c xs w h1 h
  | false => exact impl_Mirror_no s a n c xs w h1 hm h

theorem Mirror_len (s : Int) (xs : List Int) : (if isBr s xs then negL xs else []).length ≤ 2000 := by
  split
  · rename_i h
    have := (isBr_let h).2.1
    rw [negL_len]; omega
  · simp

end Go.Proofs.Ytkanodiacfinmaa
