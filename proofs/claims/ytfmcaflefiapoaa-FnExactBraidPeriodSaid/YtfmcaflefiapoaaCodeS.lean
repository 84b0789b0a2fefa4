/-
  A pair map and a braid: what the reference's checks answer.
  No condition but bounds on lengths.
-/
import Derived.Test.YtfmcaflefiapoaaActS
namespace Go.Proofs.Ytfmcaflefiapoaa
set_option maxRecDepth 100000
set_option linter.unusedVariables false
set_option linter.unusedSimpArgs false
open Go.RowKit

def codeF (f g : List (List Int)) (s : Int) (xs : List Int) : Int := if isSol f g then (if isBr s xs then 0 else 1) else 1

set_option maxHeartbeats 1000000 in
theorem l16Code_any (a : Option Addr) (n c : Nat) (a' : Option Addr) (n' c' : Nat) (f g : List (List Int)) (s : Int) (ab : Option Addr) (nb cb : Nat) (xs : List Int) (w : World)
    (h1 : Tbl w a n f) (h2 : Tbl w a' n' g) (hm1 : n ≤ 9223372036854775807) (hm2 : n' ≤ 9223372036854775807) (hs : I64 s) (hr : Row w ab nb xs) (hnb : nb ≤ 9223372036854775807) :
    Calls Try.prog 65 #[sAgg a n c a' n' c', bAgg s ab nb cb] w fun e w' => e = .returned (.int .i64 (codeF f g s xs)) ∧ Below w.heap.size w w' := by
  have hA := (Loc.new w rfl #[.slice a n c, .slice a' n' c'] 33).alloc (.cells #[.int .i64 s, .slice ab nb cb] 36)
  have hE := Loc.new (w.alloc (.cells #[.slice a n c, .slice a' n' c'] 33)) rfl #[.int .i64 s, .slice ab nb cb] 36
  rw [size_alloc] at hE
  have hB := below_al (below_al (Below.refl w.heap.size w) (.cells #[.slice a n c, .slice a' n' c'] 33)) (.cells #[.int .i64 s, .slice ab nb cb] 36)
  cases q1 : isSol f g with
  | false =>
    have HQ : Hid (codeF f g s xs = 1) := Lib.hid (by unfold codeF; rw [q1]; rfl)
    have H1 := Lib.hid q1; clear q1
    go_enter Try.func65, Try.ntmps65
    go_wp2_with fail
    generalize (w.alloc (.cells #[.slice a n c, .slice a' n' c'] 33)).alloc (.cells #[.int .i64 s, .slice ab nb cb] 36) = w0 at *
    refine (l02Is_any _ _ _ _ _ _ _ _ _ (h1.below hB) (h2.below hB) hm1 hm2).mono ?_
    rintro e w1 ⟨rfl, hb1⟩
    rw [H1.out]
    go_wp2
    go_ret
    exact ⟨ret_int HQ.out.symm, below_th hB hb1⟩
  | true =>
    have H1 := Lib.hid q1
    cases q2 : isBr s xs
    all_goals
      have H2 := Lib.hid q2
      have HQ : Hid (codeF f g s xs = if isBr s xs then 0 else 1) := Lib.hid (by unfold codeF; rw [q1]; rfl)
      rw [q2] at HQ
      clear q2
      try clear q1
      go_enter Try.func65, Try.ntmps65
      go_wp2_with fail
      generalize (w.alloc (.cells #[.slice a n c, .slice a' n' c'] 33)).alloc (.cells #[.int .i64 s, .slice ab nb cb] 36) = w0 at *
      refine (l02Is_any _ _ _ _ _ _ _ _ _ (h1.below hB) (h2.below hB) hm1 hm2).mono ?_
      rintro e w1 ⟨rfl, hb1⟩
      rw [H1.out]
      have lE := (hE.below hb1 hE.lt).two
      go_wp2_with fail
      refine (l16Is_any _ _ _ _ xs _ (hr.below (below_th hB hb1)) hnb hs).mono ?_
      rintro e w2 ⟨rfl, hb2⟩
      rw [H2.out]
      go_wp2
      go_ret
      exact ⟨ret_int HQ.out.symm, below_th (below_th hB hb1) hb2⟩

theorem codeF_zero {f g : List (List Int)} {s : Int} {xs : List Int} (h : codeF f g s xs = 0) : isSol f g = true ∧ isBr s xs = true := by
  unfold codeF at h
  by_cases h1 : isSol f g = true
  · rw [if_pos h1] at h
    by_cases h2 : isBr s xs = true
    · exact ⟨h1, h2⟩
    · rw [if_neg h2] at h; omega
  · rw [if_neg h1] at h; omega

end Go.Proofs.Ytfmcaflefiapoaa
