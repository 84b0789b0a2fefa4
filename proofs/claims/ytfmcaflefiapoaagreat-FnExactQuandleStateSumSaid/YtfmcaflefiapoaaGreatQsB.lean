/-
  QuandleStateSum: what the program's and the reference's compute.
  No condition but bounds.
-/
import Derived.Test.YtfmcaflefiapoaaGreatRkSolI
import Derived.Test.YtfmcaflefiapoaaGreatRkSolS
import Derived.Test.YtfmcaflefiapoaaGreatCwS
namespace Go.Proofs.YtfmcaflefiapoaaGreat
set_option maxRecDepth 100000
set_option linter.unusedVariables false
set_option linter.unusedSimpArgs false
open Go.RowKit

/-- the state sum of a quandle weight, and the code -/
def qsF (t : List (List Int)) (m : Int) (M : List (List Int)) (s : Int) (xs : List Int) : List Int × Int :=
  if isRk t then (if isBr s xs then (if isMx t.length m M then (if qwOk t m M then stF t (cstL t.length) m M s xs else ([], 5)) else ([], 2)) else ([], 1)) else ([], 1)
section
variable {t M : List (List Int)} {m s : Int} {xs : List Int}
theorem qsF_0 (h : isRk t = false) : qsF t m M s xs = ([], 1) := by unfold qsF; rw [h]; rfl
theorem qsF_1 (h : isRk t = true) (h1 : isBr s xs = false) : qsF t m M s xs = ([], 1) := by unfold qsF; rw [h, h1]; rfl
theorem qsF_2 (h : isRk t = true) (h1 : isBr s xs = true) (h2 : isMx t.length m M = false) : qsF t m M s xs = ([], 2) := by unfold qsF; rw [h, h1, h2]; rfl
theorem qsF_3 (h : isRk t = true) (h1 : isBr s xs = true) (h2 : isMx t.length m M = true) (h3 : qwOk t m M = false) : qsF t m M s xs = ([], 5) := by unfold qsF; rw [h, h1, h2, h3]; rfl
theorem qsF_4 (h : isRk t = true) (h1 : isBr s xs = true) (h2 : isMx t.length m M = true) (h3 : qwOk t m M = true) : qsF t m M s xs = stF t (cstL t.length) m M s xs := by unfold qsF; rw [h, h1, h2, h3]; rfl
theorem Qs_len (t : List (List Int)) (m : Int) (M : List (List Int)) (s : Int) (xs : List Int) : List.length (qsF t m M s xs).1 ≤ 1000000 := by
  unfold qsF
  split
  · split
    · split
      · split
        · exact St_len _ _ _ _ _ _
        · simp
      · simp
    · simp
  · simp
end

set_option maxHeartbeats 4000000 in
theorem impl_Qs_l (a : Option Addr) (n c : Nat) (t : List (List Int)) (m : Int) (am : Option Addr) (nm cm : Nat) (M : List (List Int)) (s : Int) (ab : Option Addr) (nb cb : Nat) (xs : List Int) (w : World) (h : Tbl w a n t) (hn : n ≤ 9223372036854775807) (hi : I64 m) (h5 : Tbl w am nm M) (hnm : nm ≤ 9223372036854775807) (hs : I64 s) (hr : Row w ab nb xs) (hnb : nb ≤ 9223372036854775807) (hx : I64s xs) (hcap : nb ≤ cb ∧ cb ≤ 9223372036854775807) :
    Calls Tryz.prog 11 #[rAgg a n c, .int .i64 m, .slice am nm cm, bAgg s ab nb cb] w (RetR w (qsF t m M s xs).1 (qsF t m M s xs).2) := by
  have hA := (Loc.new w rfl #[.slice a n c] 33).alloc (.cells #[.int .i64 s, .slice ab nb cb] 36)
  have hE := Loc.new (w.alloc (.cells #[.slice a n c] 33)) rfl #[.int .i64 s, .slice ab nb cb] 36
  rw [size_alloc] at hE
  have hB := below_al (below_al (Below.refl w.heap.size w) (.cells #[.slice a n c] 33)) (.cells #[.int .i64 s, .slice ab nb cb] 36)
  have HFL := Lib.hid h.len
  go_enter Tryz.func11, Tryz.ntmps11
  go_wp2_with fail
  generalize (w.alloc (.cells #[.slice a n c] 33)).alloc (.cells #[.int .i64 s, .slice ab nb cb] 36) = w0 at *
  have lA := hA.one
  have lE := hE.two
  refine (isRack_any _ _ _ t _ (h.below hB) hn).mono ?_
  rintro e w1 ⟨rfl, hb1⟩
  replace hB := below_th hB hb1; replace hA := hA.below hb1 hA.lt; replace hE := hE.below hb1 hE.lt; replace lA := hA.one; replace lE := hE.two
  cases q0 : isRk t with
  | false =>
    have HQ : Hid (qsF t m M s xs = ([], 1)) := Lib.hid (qsF_0 q0)
    clear q0
    go_wp2
    go_ret2
    exact ⟨none, 0, 0, by rw [HQ.out]; rfl, by rw [HQ.out]; exact Own.nil _ _, hB⟩
  | true =>
  have HR := Lib.hid q0
  clear q0
  go_wp2_with fail
  refine (isBraid_any _ _ _ _ xs _ (hr.below hB) hnb).mono ?_
  rintro e w2 ⟨rfl, hb2⟩
  replace hB := below_th hB hb2; replace hA := hA.below hb2 hA.lt; replace hE := hE.below hb2 hE.lt; replace lA := hA.one; replace lE := hE.two
  cases q1 : isBr s xs with
  | false =>
    have HQ : Hid (qsF t m M s xs = ([], 1)) := Lib.hid (qsF_1 HR.out q1)
    clear q1
    go_wp2
    go_ret2
    exact ⟨none, 0, 0, by rw [HQ.out]; rfl, by rw [HQ.out]; exact Own.nil _ _, hB⟩
  | true =>
  have HBR := Lib.hid q1
  clear q1
  go_wp2_with fail
  refine (isMatrix_any _ _ _ _ _ M _ (h5.below hB) hnm).mono ?_
  rintro e w3 ⟨rfl, hb3⟩
  replace hB := below_th hB hb3; replace hA := hA.below hb3 hA.lt; replace hE := hE.below hb3 hE.lt; replace lA := hA.one; replace lE := hE.two
  cases q2 : isMx n m M with
  | false =>
    have HQ : Hid (qsF t m M s xs = ([], 2)) := Lib.hid (qsF_2 HR.out HBR.out (by rw [← HFL.out]; exact q2))
    clear q2
    go_wp2
    go_ret2
    exact ⟨none, 0, 0, by rw [HQ.out]; rfl, by rw [HQ.out]; exact Own.nil _ _, hB⟩
  | true =>
  have H2 := Lib.hid q2
  obtain ⟨hmm, hM⟩ := isMx_sq q2
  clear q2
  obtain rfl : nm = n := by rw [h5.len]; exact hM.1
  have HMM := Lib.hid hmm; have HM := Lib.hid hM
  clear hmm hM
  go_wp2_with fail
  refine (isQuandleWeight_any _ _ _ t m _ _ M _ (h.below hB) HR.out HMM.out HM.out (h5.below hB)).mono ?_
  rintro e w4 ⟨rfl, hb4⟩
  replace hB := below_th hB hb4; replace hA := hA.below hb4 hA.lt; replace hE := hE.below hb4 hE.lt; replace lA := hA.one; replace lE := hE.two
  cases q3 : qwOk t m M with
  | false =>
    have HQ : Hid (qsF t m M s xs = ([], 5)) := Lib.hid (qsF_3 HR.out HBR.out (by rw [← HFL.out]; exact H2.out) q3)
    clear q3
    go_wp2
    go_ret2
    exact ⟨none, 0, 0, by rw [HQ.out]; rfl, by rw [HQ.out]; exact Own.nil _ _, hB⟩
  | true =>
  have HQ : Hid (qsF t m M s xs = stF t (cstL t.length) m M s xs) := Lib.hid (qsF_4 HR.out HBR.out (by rw [← HFL.out]; exact H2.out) q3)
  clear q3
  obtain ⟨hn1, hn12, hf⟩ := isTab_sq (isRk_parts HR.out).1
  have HF := Lib.hid hf
  clear hf
  rw [← HFL.out] at HF HQ hn1 hn12
  have hzz := hB.size
  generalize hR : stF t (cstL nm) m M s xs = R at *
  have HRR := Lib.hid hR
  clear hR
  go_wp2_with fail
  go_region_held3 (fun w' => w'.cell? ⟨w.heap.size, 0, none⟩ = some (.slice a nm c) ∧ (w'.cell? ⟨w.heap.size + 1, 0, none⟩ = some (.int .i64 s) ∧ w'.cell? ⟨w.heap.size + 1, 1, none⟩ = some (.slice ab nb cb)))
    (first | exact ⟨lA6.1, lE6.1, lE6.2.1⟩ | exact ⟨lA5.1, lE5.1, lE5.2.1⟩ | exact ⟨lA.1, lE.1, lE.2.1⟩ | go_keep)
    (first
      | (go_at_call 33; refine (rackSolution_any _ _ _ t _ (h.below (below_drewN hB 1)) HF.out hn1 hn12).mono ?_; rintro e w5 ⟨a3, c3, vs3, a3', c3', vs3', rfl, ho3, hb5⟩; have hr5 : Below w4.heap.size w4 w5 := (Below.drew (Below.refl _ _)).trans hb5; have hB5 := below_th hB hr5; have lA5 := (hA.below hr5 hA.lt).one; have lE5 := (hE.below hr5 hE.lt).two)
      | (go_at_call 32; refine (impl_St_l _ _ _ t _ _ _ (cstL nm) m _ _ _ M s _ _ _ xs _ ho3.sol ⟨by omega, by omega⟩ hi (h5.below hB5) hnm hs (hr.below hB5) hnb hx hcap).mono ?_; rintro e w6 ⟨a6, n6, c6, rfl, ho6, hb6⟩; rw [HRR.out] at ho6 ⊢; have hr6 := below_th hr5 hb6; have lA6 := (hA.below hr6 hA.lt).one; have lE6 := (hE.below hr6 hE.lt).two))
  all_goals
    go_wp2
    go_ret2
    exact ⟨a6, n6, c6, by rw [HQ.out]; rfl, by rw [HQ.out]; exact ho6.mono (by have := hr5.size; omega), below_th hB hr6⟩

set_option maxHeartbeats 4000000 in
theorem spec_Qs_l (a : Option Addr) (n c : Nat) (t : List (List Int)) (m : Int) (am : Option Addr) (nm cm : Nat) (M : List (List Int)) (s : Int) (ab : Option Addr) (nb cb : Nat) (xs : List Int) (w : World) (h : Tbl w a n t) (hn : n ≤ 9223372036854775807) (hi : I64 m) (h5 : Tbl w am nm M) (hnm : nm ≤ 9223372036854775807) (hs : I64 s) (hr : Row w ab nb xs) (hnb : nb ≤ 9223372036854775807) (hx : I64s xs) (hcap : nb ≤ cb ∧ cb ≤ 9223372036854775807) :
    Calls Tryz.prog 7 #[rAgg a n c, .int .i64 m, .slice am nm cm, bAgg s ab nb cb] w (RetR w (qsF t m M s xs).1 (qsF t m M s xs).2) := by
  have hA := (Loc.new w rfl #[.slice a n c] 33).alloc (.cells #[.int .i64 s, .slice ab nb cb] 36)
  have hE := Loc.new (w.alloc (.cells #[.slice a n c] 33)) rfl #[.int .i64 s, .slice ab nb cb] 36
  rw [size_alloc] at hE
  have hB := below_al (below_al (Below.refl w.heap.size w) (.cells #[.slice a n c] 33)) (.cells #[.int .i64 s, .slice ab nb cb] 36)
  have HFL := Lib.hid h.len
  go_enter Tryz.func7, Tryz.ntmps7
  go_wp2_with fail
  generalize (w.alloc (.cells #[.slice a n c] 33)).alloc (.cells #[.int .i64 s, .slice ab nb cb] 36) = w0 at *
  have lA := hA.one
  have lE := hE.two
  refine (l03Is_any _ _ _ t _ (h.below hB) hn).mono ?_
  rintro e w1 ⟨rfl, hb1⟩
  replace hB := below_th hB hb1; replace hA := hA.below hb1 hA.lt; replace hE := hE.below hb1 hE.lt; replace lA := hA.one; replace lE := hE.two
  cases q0 : isRk t with
  | false =>
    have HQ : Hid (qsF t m M s xs = ([], 1)) := Lib.hid (qsF_0 q0)
    clear q0
    go_wp2
    go_ret2
    exact ⟨none, 0, 0, by rw [HQ.out]; rfl, by rw [HQ.out]; exact Own.nil _ _, hB⟩
  | true =>
  have HR := Lib.hid q0
  clear q0
  go_wp2_with fail
  refine (l16Is_any _ _ _ _ xs _ (hr.below hB) hnb hs).mono ?_
  rintro e w2 ⟨rfl, hb2⟩
  replace hB := below_th hB hb2; replace hA := hA.below hb2 hA.lt; replace hE := hE.below hb2 hE.lt; replace lA := hA.one; replace lE := hE.two
  cases q1 : isBr s xs with
  | false =>
    have HQ : Hid (qsF t m M s xs = ([], 1)) := Lib.hid (qsF_1 HR.out q1)
    clear q1
    go_wp2
    go_ret2
    exact ⟨none, 0, 0, by rw [HQ.out]; rfl, by rw [HQ.out]; exact Own.nil _ _, hB⟩
  | true =>
  have HBR := Lib.hid q1
  clear q1
  go_wp2_with fail
  refine (spec_Iq_l _ _ _ t m _ _ _ M _ (h.below hB) hn hi (h5.below hB) hnm).mono ?_
  rintro e w3 ⟨rfl, hb3⟩
  replace hB := below_th hB hb3; replace hA := hA.below hb3 hA.lt; replace hE := hE.below hb3 hE.lt; replace lA := hA.one; replace lE := hE.two
  cases q2 : isMx n m M with
  | false =>
    have HQ : Hid (qsF t m M s xs = ([], 2)) := Lib.hid (qsF_2 HR.out HBR.out (by rw [← HFL.out]; exact q2))
    rw [iqF_1 HR.out (by rw [← HFL.out]; exact q2)]
    clear q2
    go_wp2
    go_ret2
    exact ⟨none, 0, 0, by rw [HQ.out]; rfl, by rw [HQ.out]; exact Own.nil _ _, hB⟩
  | true =>
  have H2 := Lib.hid q2
  obtain ⟨hmm, hM⟩ := isMx_sq q2
  rw [iqF_2 HR.out (by rw [← HFL.out]; exact q2)]
  clear q2
  obtain rfl : nm = n := by rw [h5.len]; exact hM.1
  have HMM := Lib.hid hmm; have HM := Lib.hid hM
  clear hmm hM
  cases q3 : qwOk t m M with
  | false =>
    have HQ : Hid (qsF t m M s xs = ([], 5)) := Lib.hid (qsF_3 HR.out HBR.out (by rw [← HFL.out]; exact H2.out) q3)
    clear q3
    go_wp2
    go_ret2
    exact ⟨none, 0, 0, by rw [HQ.out]; rfl, by rw [HQ.out]; exact Own.nil _ _, hB⟩
  | true =>
  have HQ : Hid (qsF t m M s xs = stF t (cstL t.length) m M s xs) := Lib.hid (qsF_4 HR.out HBR.out (by rw [← HFL.out]; exact H2.out) q3)
  clear q3
  obtain ⟨hn1, hn12, hf⟩ := isTab_sq (isRk_parts HR.out).1
  have HF := Lib.hid hf
  clear hf
  rw [← HFL.out] at HF HQ hn1 hn12
  have hzz := hB.size
  generalize hR : stF t (cstL nm) m M s xs = R at *
  have HRR := Lib.hid hR
  clear hR
  go_wp2_with fail
  go_region_held3 (fun w' => w'.cell? ⟨w.heap.size, 0, none⟩ = some (.slice a nm c) ∧ (w'.cell? ⟨w.heap.size + 1, 0, none⟩ = some (.int .i64 s) ∧ w'.cell? ⟨w.heap.size + 1, 1, none⟩ = some (.slice ab nb cb)))
    (first | exact ⟨lA6.1, lE6.1, lE6.2.1⟩ | exact ⟨lA5.1, lE5.1, lE5.2.1⟩ | exact ⟨lA.1, lE.1, lE.2.1⟩ | go_keep)
    (first
      | (go_at_call 26; refine (l03Solution_any _ _ _ t _ (h.below (below_drewN hB 1)) HF.out hn1 hn12).mono ?_; rintro e w5 ⟨a3, c3, vs3, a3', c3', vs3', rfl, ho3, hb5⟩; have hr5 : Below w3.heap.size w3 w5 := (Below.drew (Below.refl _ _)).trans hb5; have hB5 := below_th hB hr5; have lA5 := (hA.below hr5 hA.lt).one; have lE5 := (hE.below hr5 hE.lt).two)
      | (go_at_call 25; refine (spec_St_l _ _ _ t _ _ _ (cstL nm) m _ _ _ M s _ _ _ xs _ ho3.sol ⟨by omega, by omega⟩ hi (h5.below hB5) hnm hs (hr.below hB5) hnb hx hcap).mono ?_; rintro e w6 ⟨a6, n6, c6, rfl, ho6, hb6⟩; rw [HRR.out] at ho6 ⊢; have hr6 := below_th hr5 hb6; have lA6 := (hA.below hr6 hA.lt).one; have lE6 := (hE.below hr6 hE.lt).two))
  all_goals
    go_wp2
    go_ret2
    exact ⟨a6, n6, c6, by rw [HQ.out]; rfl, by rw [HQ.out]; exact ho6.mono (by have := hr5.size; omega), below_th hB hr6⟩

end Go.Proofs.YtfmcaflefiapoaaGreat
