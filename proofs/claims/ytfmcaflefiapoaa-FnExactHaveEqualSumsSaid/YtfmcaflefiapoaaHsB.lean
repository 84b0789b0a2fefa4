/-
  HaveEqualSums: what the program's and the reference's compute.
  No condition but bounds.
-/
import Derived.Test.YtfmcaflefiapoaaCwS
namespace Go.Proofs.Ytfmcaflefiapoaa
set_option maxRecDepth 100000
set_option linter.unusedVariables false
set_option linter.unusedSimpArgs false
open Go.RowKit

/-- whether both state sums are equal, and the code -/
def hsF (f g : List (List Int)) (m : Int) (M : List (List Int)) (s : Int) (xs : List Int) (s' : Int) (ys : List Int) : Bool × Int :=
  if isSol f g then (if isBr s xs then (if isBr s' ys then (if (stF f g m M s xs).2 = 0 then (if (stF f g m M s' ys).2 = 0 then (decide ((stF f g m M s xs).1 = (stF f g m M s' ys).1), 0) else (false, (stF f g m M s' ys).2)) else (false, (stF f g m M s xs).2)) else (false, 1)) else (false, 1)) else (false, 1)
section
variable {f g M : List (List Int)} {m s s' : Int} {xs ys : List Int}
theorem hsF_0 (h : isSol f g = false) : hsF f g m M s xs s' ys = (false, 1) := by unfold hsF; rw [h]; rfl
theorem hsF_1 (h : isSol f g = true) (h1 : isBr s xs = false) : hsF f g m M s xs s' ys = (false, 1) := by unfold hsF; rw [h, h1]; rfl
theorem hsF_2 (h : isSol f g = true) (h1 : isBr s xs = true) (h2 : isBr s' ys = false) : hsF f g m M s xs s' ys = (false, 1) := by unfold hsF; rw [h, h1, h2]; rfl
theorem hsF_3 (h : isSol f g = true) (h1 : isBr s xs = true) (h2 : isBr s' ys = true) (h3 : ¬ (stF f g m M s xs).2 = 0) : hsF f g m M s xs s' ys = (false, (stF f g m M s xs).2) := by unfold hsF; rw [h, h1, h2]; simp [h3]
theorem hsF_4 (h : isSol f g = true) (h1 : isBr s xs = true) (h2 : isBr s' ys = true) (h3 : (stF f g m M s xs).2 = 0) (h4 : ¬ (stF f g m M s' ys).2 = 0) : hsF f g m M s xs s' ys = (false, (stF f g m M s' ys).2) := by unfold hsF; rw [h, h1, h2]; simp [h3, h4]
theorem hsF_5 (h : isSol f g = true) (h1 : isBr s xs = true) (h2 : isBr s' ys = true) (h3 : (stF f g m M s xs).2 = 0) (h4 : (stF f g m M s' ys).2 = 0) : hsF f g m M s xs s' ys = (decide ((stF f g m M s xs).1 = (stF f g m M s' ys).1), 0) := by unfold hsF; rw [h, h1, h2]; simp [h3, h4]
end

set_option maxHeartbeats 4000000 in
theorem impl_Hs_l (a : Option Addr) (n c : Nat) (f : List (List Int)) (a' : Option Addr) (n' c' : Nat) (g : List (List Int)) (m : Int) (am : Option Addr) (nm cm : Nat) (M : List (List Int)) (s : Int) (ab : Option Addr) (nb cb : Nat) (xs : List Int) (s' : Int) (ad : Option Addr) (nd cd : Nat) (ys : List Int) (w : World) (h1 : Sol w a n f a' n' g) (hm : n ≤ 9223372036854775807 ∧ n' ≤ 9223372036854775807) (hi : I64 m) (h5 : Tbl w am nm M) (hnm : nm ≤ 9223372036854775807) (hs : I64 s) (hr : Row w ab nb xs) (hnb : nb ≤ 9223372036854775807) (hx : I64s xs) (hcap : nb ≤ cb ∧ cb ≤ 9223372036854775807) (hs' : I64 s') (hr' : Row w ad nd ys) (hnd : nd ≤ 9223372036854775807) (hy : I64s ys) (hcap' : nd ≤ cd ∧ cd ≤ 9223372036854775807) :
    Calls Try.prog 42 #[sAgg a n c a' n' c', .int .i64 m, .slice am nm cm, bAgg s ab nb cb, bAgg s' ad nd cd] w (RetO w (hsF f g m M s xs s' ys).1 (hsF f g m M s xs s' ys).2) := by
  obtain ⟨hm1, hm2⟩ := hm
  have hA := ((Loc.new w rfl #[.slice a n c, .slice a' n' c'] 33).alloc (.cells #[.int .i64 s, .slice ab nb cb] 36)).alloc (.cells #[.int .i64 s', .slice ad nd cd] 36)
  have hE := (Loc.new (w.alloc (.cells #[.slice a n c, .slice a' n' c'] 33)) rfl #[.int .i64 s, .slice ab nb cb] 36).alloc (.cells #[.int .i64 s', .slice ad nd cd] 36)
  have hD := Loc.new ((w.alloc (.cells #[.slice a n c, .slice a' n' c'] 33)).alloc (.cells #[.int .i64 s, .slice ab nb cb] 36)) rfl #[.int .i64 s', .slice ad nd cd] 36
  rw [size_alloc] at hE
  rw [size_alloc, size_alloc] at hD
  have hB := below_al (below_al (below_al (Below.refl w.heap.size w) (.cells #[.slice a n c, .slice a' n' c'] 33)) (.cells #[.int .i64 s, .slice ab nb cb] 36)) (.cells #[.int .i64 s', .slice ad nd cd] 36)
  go_enter Try.func42, Try.ntmps42
  go_wp2_with fail
  generalize ((w.alloc (.cells #[.slice a n c, .slice a' n' c'] 33)).alloc (.cells #[.int .i64 s, .slice ab nb cb] 36)).alloc (.cells #[.int .i64 s', .slice ad nd cd] 36) = w0 at *
  have lA := hA.two
  have lE := hE.two
  have lD := hD.two
  refine (isSolution_any _ _ _ _ _ _ _ _ _ (h1.f.below hB) (h1.s.below hB) hm1 hm2).mono ?_
  rintro e w1 ⟨rfl, hb1⟩
  replace hB := below_th hB hb1; replace hA := hA.below hb1 hA.lt; replace hE := hE.below hb1 hE.lt; replace hD := hD.below hb1 hD.lt; replace lA := hA.two; replace lE := hE.two; replace lD := hD.two
  cases q0 : isSol f g with
  | false =>
    have HQ : Hid (hsF f g m M s xs s' ys = (false, 1)) := Lib.hid (hsF_0 q0)
    clear q0
    go_wp2
    go_ret2
    exact ⟨by rw [HQ.out]; rfl, hB⟩
  | true =>
  have HS := Lib.hid q0
  clear q0
  go_wp2_with fail
  refine (isBraid_any _ _ _ _ xs _ (hr.below hB) hnb).mono ?_
  rintro e w2 ⟨rfl, hb2⟩
  replace hB := below_th hB hb2; replace hA := hA.below hb2 hA.lt; replace hE := hE.below hb2 hE.lt; replace hD := hD.below hb2 hD.lt; replace lA := hA.two; replace lE := hE.two; replace lD := hD.two
  cases q1 : isBr s xs with
  | false =>
    have HQ : Hid (hsF f g m M s xs s' ys = (false, 1)) := Lib.hid (hsF_1 HS.out q1)
    clear q1
    go_wp2
    go_ret2
    exact ⟨by rw [HQ.out]; rfl, hB⟩
  | true =>
  have H1 := Lib.hid q1
  clear q1
  go_wp2_with fail
  refine (isBraid_any _ _ _ _ ys _ (hr'.below hB) hnd).mono ?_
  rintro e w3 ⟨rfl, hb3⟩
  replace hB := below_th hB hb3; replace hA := hA.below hb3 hA.lt; replace hE := hE.below hb3 hE.lt; replace hD := hD.below hb3 hD.lt; replace lA := hA.two; replace lE := hE.two; replace lD := hD.two
  cases q2 : isBr s' ys with
  | false =>
    have HQ : Hid (hsF f g m M s xs s' ys = (false, 1)) := Lib.hid (hsF_2 HS.out H1.out q2)
    clear q2
    go_wp2
    go_ret2
    exact ⟨by rw [HQ.out]; rfl, hB⟩
  | true =>
  have H2 := Lib.hid q2
  clear q2
  go_wp2_with fail
  refine (impl_St_l _ _ _ f _ _ _ g m _ _ _ M s _ _ _ xs _ ⟨h1.f.below hB, h1.s.below hB⟩ ⟨hm1, hm2⟩ hi (h5.below hB) hnm hs (hr.below hB) hnb hx hcap).mono ?_
  rintro e w4 ⟨a1, n1, c1, rfl, ho, hb4⟩
  replace hB := below_th hB hb4; replace hA := hA.below hb4 hA.lt; replace hE := hE.below hb4 hE.lt; replace hD := hD.below hb4 hD.lt; replace lA := hA.two; replace lE := hE.two; replace lD := hD.two
  have hln := St_len f g m M s xs
  have hol := ho.len
  have hn1 : n1 ≤ 1000000 := by omega
  clear hln hol
  by_cases q3 : (stF f g m M s xs).2 = 0
  rotate_left
  · have HQ : Hid (hsF f g m M s xs s' ys = (false, (stF f g m M s xs).2)) := Lib.hid (hsF_3 HS.out H1.out H2.out q3)
    have hb : ((stF f g m M s xs).2 != 0) = true := by simpa using q3
    clear q3
    generalize (stF f g m M s xs).2 = r at *
    go_wp2
    go_ret2
    exact ⟨by rw [HQ.out]; rfl, hB⟩
  have H3 := Lib.hid q3
  rw [q3]
  clear q3
  go_wp2_with fail
  refine (impl_St_l _ _ _ f _ _ _ g m _ _ _ M s' _ _ _ ys _ ⟨h1.f.below hB, h1.s.below hB⟩ ⟨hm1, hm2⟩ hi (h5.below hB) hnm hs' (hr'.below hB) hnd hy hcap').mono ?_
  rintro e w5 ⟨a2, n2, c2, rfl, ho2, hb5⟩
  replace hB := below_th hB hb5; replace hA := hA.below hb5 hA.lt; replace hE := hE.below hb5 hE.lt; replace hD := hD.below hb5 hD.lt; replace lA := hA.two; replace lE := hE.two; replace lD := hD.two
  by_cases q4 : (stF f g m M s' ys).2 = 0
  rotate_left
  · have HQ : Hid (hsF f g m M s xs s' ys = (false, (stF f g m M s' ys).2)) := Lib.hid (hsF_4 HS.out H1.out H2.out H3.out q4)
    have hb : ((stF f g m M s' ys).2 != 0) = true := by simpa using q4
    clear q4
    generalize (stF f g m M s' ys).2 = r at *
    go_wp2
    go_ret2
    exact ⟨by rw [HQ.out]; rfl, hB⟩
  have H4 := Lib.hid q4
  rw [q4]
  clear q4
  have HQ : Hid (hsF f g m M s xs s' ys = (decide ((stF f g m M s xs).1 = (stF f g m M s' ys).1), 0)) := Lib.hid (hsF_5 HS.out H1.out H2.out H3.out H4.out)
  have ho5 := ho.below hb5
  go_wp2_with fail
  refine (sEqual_b _ _ _ _ _ _ _ _ _ ho5.row ho2.row (by omega) _ rfl).mono ?_
  rintro e w6 ⟨rfl, hb6⟩
  go_wp2
  go_ret2
  exact ⟨by rw [HQ.out]; rfl, below_th hB hb6⟩

set_option maxHeartbeats 4000000 in
theorem spec_Hs_l (a : Option Addr) (n c : Nat) (f : List (List Int)) (a' : Option Addr) (n' c' : Nat) (g : List (List Int)) (m : Int) (am : Option Addr) (nm cm : Nat) (M : List (List Int)) (s : Int) (ab : Option Addr) (nb cb : Nat) (xs : List Int) (s' : Int) (ad : Option Addr) (nd cd : Nat) (ys : List Int) (w : World) (h1 : Sol w a n f a' n' g) (hm : n ≤ 9223372036854775807 ∧ n' ≤ 9223372036854775807) (hi : I64 m) (h5 : Tbl w am nm M) (hnm : nm ≤ 9223372036854775807) (hs : I64 s) (hr : Row w ab nb xs) (hnb : nb ≤ 9223372036854775807) (hx : I64s xs) (hcap : nb ≤ cb ∧ cb ≤ 9223372036854775807) (hs' : I64 s') (hr' : Row w ad nd ys) (hnd : nd ≤ 9223372036854775807) (hy : I64s ys) (hcap' : nd ≤ cd ∧ cd ≤ 9223372036854775807) :
    Calls Try.prog 41 #[sAgg a n c a' n' c', .int .i64 m, .slice am nm cm, bAgg s ab nb cb, bAgg s' ad nd cd] w (RetO w (hsF f g m M s xs s' ys).1 (hsF f g m M s xs s' ys).2) := by
  obtain ⟨hm1, hm2⟩ := hm
  have hA := ((Loc.new w rfl #[.slice a n c, .slice a' n' c'] 33).alloc (.cells #[.int .i64 s, .slice ab nb cb] 36)).alloc (.cells #[.int .i64 s', .slice ad nd cd] 36)
  have hE := (Loc.new (w.alloc (.cells #[.slice a n c, .slice a' n' c'] 33)) rfl #[.int .i64 s, .slice ab nb cb] 36).alloc (.cells #[.int .i64 s', .slice ad nd cd] 36)
  have hD := Loc.new ((w.alloc (.cells #[.slice a n c, .slice a' n' c'] 33)).alloc (.cells #[.int .i64 s, .slice ab nb cb] 36)) rfl #[.int .i64 s', .slice ad nd cd] 36
  rw [size_alloc] at hE
  rw [size_alloc, size_alloc] at hD
  have hB := below_al (below_al (below_al (Below.refl w.heap.size w) (.cells #[.slice a n c, .slice a' n' c'] 33)) (.cells #[.int .i64 s, .slice ab nb cb] 36)) (.cells #[.int .i64 s', .slice ad nd cd] 36)
  go_enter Try.func41, Try.ntmps41
  go_wp2_with fail
  generalize ((w.alloc (.cells #[.slice a n c, .slice a' n' c'] 33)).alloc (.cells #[.int .i64 s, .slice ab nb cb] 36)).alloc (.cells #[.int .i64 s', .slice ad nd cd] 36) = w0 at *
  have lA := hA.two
  have lE := hE.two
  have lD := hD.two
  refine (l02Is_any _ _ _ _ _ _ _ _ _ (h1.f.below hB) (h1.s.below hB) hm1 hm2).mono ?_
  rintro e w1 ⟨rfl, hb1⟩
  replace hB := below_th hB hb1; replace hA := hA.below hb1 hA.lt; replace hE := hE.below hb1 hE.lt; replace hD := hD.below hb1 hD.lt; replace lA := hA.two; replace lE := hE.two; replace lD := hD.two
  cases q0 : isSol f g with
  | false =>
    have HQ : Hid (hsF f g m M s xs s' ys = (false, 1)) := Lib.hid (hsF_0 q0)
    clear q0
    go_wp2
    go_ret2
    exact ⟨by rw [HQ.out]; rfl, hB⟩
  | true =>
  have HS := Lib.hid q0
  clear q0
  go_wp2_with fail
  refine (l16Is_any _ _ _ _ xs _ (hr.below hB) hnb hs).mono ?_
  rintro e w2 ⟨rfl, hb2⟩
  replace hB := below_th hB hb2; replace hA := hA.below hb2 hA.lt; replace hE := hE.below hb2 hE.lt; replace hD := hD.below hb2 hD.lt; replace lA := hA.two; replace lE := hE.two; replace lD := hD.two
  cases q1 : isBr s xs with
  | false =>
    have HQ : Hid (hsF f g m M s xs s' ys = (false, 1)) := Lib.hid (hsF_1 HS.out q1)
    clear q1
    go_wp2
    go_ret2
    exact ⟨by rw [HQ.out]; rfl, hB⟩
  | true =>
  have H1 := Lib.hid q1
  clear q1
  go_wp2_with fail
  refine (l16Is_any _ _ _ _ ys _ (hr'.below hB) hnd hs').mono ?_
  rintro e w3 ⟨rfl, hb3⟩
  replace hB := below_th hB hb3; replace hA := hA.below hb3 hA.lt; replace hE := hE.below hb3 hE.lt; replace hD := hD.below hb3 hD.lt; replace lA := hA.two; replace lE := hE.two; replace lD := hD.two
  cases q2 : isBr s' ys with
  | false =>
    have HQ : Hid (hsF f g m M s xs s' ys = (false, 1)) := Lib.hid (hsF_2 HS.out H1.out q2)
    clear q2
    go_wp2
    go_ret2
    exact ⟨by rw [HQ.out]; rfl, hB⟩
  | true =>
  have H2 := Lib.hid q2
  clear q2
  go_wp2_with fail
  refine (spec_St_l _ _ _ f _ _ _ g m _ _ _ M s _ _ _ xs _ ⟨h1.f.below hB, h1.s.below hB⟩ ⟨hm1, hm2⟩ hi (h5.below hB) hnm hs (hr.below hB) hnb hx hcap).mono ?_
  rintro e w4 ⟨a1, n1, c1, rfl, ho, hb4⟩
  replace hB := below_th hB hb4; replace hA := hA.below hb4 hA.lt; replace hE := hE.below hb4 hE.lt; replace hD := hD.below hb4 hD.lt; replace lA := hA.two; replace lE := hE.two; replace lD := hD.two
  have hln := St_len f g m M s xs
  have hol := ho.len
  have hn1 : n1 ≤ 1000000 := by omega
  clear hln hol
  by_cases q3 : (stF f g m M s xs).2 = 0
  rotate_left
  · have HQ : Hid (hsF f g m M s xs s' ys = (false, (stF f g m M s xs).2)) := Lib.hid (hsF_3 HS.out H1.out H2.out q3)
    have hb : ((stF f g m M s xs).2 != 0) = true := by simpa using q3
    clear q3
    generalize (stF f g m M s xs).2 = r at *
    go_wp2
    go_ret2
    exact ⟨by rw [HQ.out]; rfl, hB⟩
  have H3 := Lib.hid q3
  rw [q3]
  clear q3
  go_wp2_with fail
  refine (spec_St_l _ _ _ f _ _ _ g m _ _ _ M s' _ _ _ ys _ ⟨h1.f.below hB, h1.s.below hB⟩ ⟨hm1, hm2⟩ hi (h5.below hB) hnm hs' (hr'.below hB) hnd hy hcap').mono ?_
  rintro e w5 ⟨a2, n2, c2, rfl, ho2, hb5⟩
  replace hB := below_th hB hb5; replace hA := hA.below hb5 hA.lt; replace hE := hE.below hb5 hE.lt; replace hD := hD.below hb5 hD.lt; replace lA := hA.two; replace lE := hE.two; replace lD := hD.two
  by_cases q4 : (stF f g m M s' ys).2 = 0
  rotate_left
  · have HQ : Hid (hsF f g m M s xs s' ys = (false, (stF f g m M s' ys).2)) := Lib.hid (hsF_4 HS.out H1.out H2.out H3.out q4)
    have hb : ((stF f g m M s' ys).2 != 0) = true := by simpa using q4
    clear q4
    generalize (stF f g m M s' ys).2 = r at *
    go_wp2
    go_ret2
    exact ⟨by rw [HQ.out]; rfl, hB⟩
  have H4 := Lib.hid q4
  rw [q4]
  clear q4
  have HQ : Hid (hsF f g m M s xs s' ys = (decide ((stF f g m M s xs).1 = (stF f g m M s' ys).1), 0)) := Lib.hid (hsF_5 HS.out H1.out H2.out H3.out H4.out)
  have ho5 := ho.below hb5
  go_wp2_with fail
  refine (l01Same_b _ _ _ _ _ _ _ _ _ ho5.row ho2.row (by omega) _ rfl).mono ?_
  rintro e w6 ⟨rfl, hb6⟩
  go_wp2
  go_ret2
  exact ⟨by rw [HQ.out]; rfl, below_th hB hb6⟩

end Go.Proofs.Ytfmcaflefiapoaa
