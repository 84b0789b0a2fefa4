/-
  ComponentsOf: what the program's and the reference's compute.
  No condition but bounds.
-/
import Derived.Test.YtehomfbehhlhmaaComp
import Derived.Test.YtehomfbehhlhmaaHelpT
namespace Go.Proofs.Ytehomfbehhlhmaa
set_option maxRecDepth 100000
set_option linter.unusedVariables false
set_option linter.unusedSimpArgs false
open Go.RowKit

def compF (s : Int) (xs : List Int) : List Int × Int := if isBr s xs then (compL s.toNat xs, 0) else ([], 1)
set_option maxHeartbeats 1000000 in
theorem impl_Comp_any (s : Int) (a : Option Addr) (n c : Nat) (xs : List Int) (w : World) (h1 : Row w a n xs) (hm : n ≤ 9223372036854775807) (hs : I64 s) :
    Calls Try.prog 24 #[bAgg s a n c] w (RetR w (compF s xs).1 (compF s xs).2) := by
  cases hb : isBr s xs with
  | false =>
    have e : compF s xs = ([], 1) := by unfold compF; rw [hb]; rfl
    rw [e]; clear e
    have HB := Lib.hid hb; clear hb
    go_enter Try.func24, Try.ntmps24
    go_wp2_with fail
    refine (isBraid_any _ _ _ _ xs _ (h1.alloc _) hm).mono ?_
    rintro e w1 ⟨rfl, hb1⟩
    rw [HB.out]
    have hB1 : Below w.heap.size w w1 := below_alth (Below.refl _ _) hb1
    go_wp2
    exact bodyPost_ret (v := .tuple #[.slice none 0 0, .int .i64 1]) (by simp [results, Try.results24, go_sem]) rfl ⟨none, 0, 0, rfl, Own.nil _ _, hB1⟩
  | true =>
    have e : compF s xs = (compL s.toNat xs, 0) := by unfold compF; rw [hb]; rfl
    rw [e]; clear e
    obtain ⟨h26, _⟩ := isBr_let hb
    obtain ⟨S, rfl⟩ : ∃ S : Nat, s = S := ⟨s.toNat, by omega⟩
    rw [Int.toNat_natCast]
    have HB := Lib.hid hb; clear hb
    go_enter Try.func24, Try.ntmps24
    have hA := Loc.new w rfl #[.int .i64 S, .slice a n c] 24
    go_wp2_with fail
    refine (isBraid_any _ _ _ _ xs _ (h1.alloc _) hm).mono ?_
    rintro e w1 ⟨rfl, hb1⟩
    rw [HB.out]
    have hB1 : Below w.heap.size w w1 := below_alth (Below.refl _ _) hb1
    have hA1 := hA.below hb1 (by simp)
    have lA1 := hA1.two
    have hr1 := (h1.alloc _).below hb1
    go_wp2_with fail
    refine (componentsOf_any S _ _ _ xs _ hr1 HB.out).mono ?_
    rintro e w2 ⟨a2, c2, rfl, ho2, hb2⟩
    go_wp2
    exact bodyPost_ret (v := .tuple #[.slice a2 S c2, .int .i64 0]) (by simp [results, Try.results24, go_sem]) rfl ⟨_, _, _, rfl, ho2.mono hB1.size, below_th hB1 hb2⟩

theorem Comp_len (s : Int) (xs : List Int) : (compF s xs).1.length ≤ 1000000 := by
  unfold compF
  cases h : isBr s xs with
  | false => simp
  | true => have := isBr_let h; simp [compL_len]; omega
theorem impl_Comp_l (s : Int) (a : Option Addr) (n c : Nat) (xs : List Int) (w : World) (hs : I64 s) (h1 : Row w a n xs) (hm : n ≤ 9223372036854775807) (hx : I64s xs) :
    Calls Try.prog 24 #[bAgg s a n c] w (RetR w (compF s xs).1 (compF s xs).2) := impl_Comp_any s a n c xs w h1 hm hs
end Go.Proofs.Ytehomfbehhlhmaa
