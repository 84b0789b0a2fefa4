/-
  A pair map, a braid and a tuple: what the program's checks answer.
  No condition but bounds on lengths.
-/
import Derived.Test.YthkpdodhkgdiaaaActI
namespace Go.Proofs.Ythkpdodhkgdiaaa
set_option maxRecDepth 100000
set_option linter.unusedVariables false
set_option linter.unusedSimpArgs false
open Go.RowKit

theorem less_all {n : Nat} {l : List Int} (h : l.all (rngB 0 ((n : Int) - 1)) = true) : Less n l := by
  intro i hi
  have := List.all_eq_true.1 h l[i] (List.getElem_mem hi)
  unfold rngB at this
  simp at this
  refine ⟨(l.getD i 0).toNat, ?_, ?_⟩ <;> rw [getD_eq_at hi] <;> omega
/-- the code of a pair map, a braid and a tuple -/
def ckF (f g : List (List Int)) (s : Int) (xs l : List Int) : Int := if isSol f g then (if isBr s xs then (if (l.length : Int) = s then (if l.all (rngB 0 ((f.length : Int) - 1)) then 0 else 2) else 2) else 1) else 1
theorem ckF_zero {f g : List (List Int)} {s : Int} {xs l : List Int} (h : ckF f g s xs l = 0) : isSol f g = true ∧ isBr s xs = true ∧ (l.length : Int) = s ∧ Less f.length l := by
  unfold ckF at h
  by_cases h1 : isSol f g = true
  · rw [if_pos h1] at h
    by_cases h2 : isBr s xs = true
    · rw [if_pos h2] at h
      by_cases h3 : (l.length : Int) = s
      · rw [if_pos h3] at h
        by_cases h4 : l.all (rngB 0 ((f.length : Int) - 1)) = true
        · exact ⟨h1, h2, h3, less_all h4⟩
        · rw [if_neg h4] at h; omega
      · rw [if_neg h3] at h; omega
    · rw [if_neg h2] at h; omega
  · rw [if_neg h1] at h; omega

theorem areElements_any (n : Nat) (a : Option Addr) (m c : Nat) (l : List Int) (w : World) (h1 : Row w a m l) (hm : m ≤ 9223372036854775807) (hn : n ≤ 1000000) :
    Calls Try.prog 172 #[.int .i64 n, .slice a m c] w fun e w' => e = .returned (.bool (l.all (rngB 0 ((n : Int) - 1)))) ∧ w = w' := by
  have HA := Lib.hid (allWithin_any a m c l 0 ((n : Int) - 1) w h1 hm)
  go_enter Try.func172, Try.ntmps172
  go_wp2_with fail
  refine HA.out.mono ?_
  rintro e w' ⟨rfl, rfl⟩
  go_wp2
  go_ret
  exact ⟨rfl, rfl⟩

set_option maxHeartbeats 2000000 in
theorem checkAction_any (a : Option Addr) (n c : Nat) (a' : Option Addr) (n' c' : Nat) (f g : List (List Int)) (s : Int) (ab : Option Addr) (nb cb : Nat) (xs : List Int) (al : Option Addr) (m cl : Nat) (l : List Int) (w : World)
    (h1 : Tbl w a n f) (h2 : Tbl w a' n' g) (hm1 : n ≤ 9223372036854775807) (hm2 : n' ≤ 9223372036854775807) (hs : I64 s) (hr : Row w ab nb xs) (hnb : nb ≤ 9223372036854775807) (hl : Row w al m l) (hm : m ≤ 9223372036854775807) :
    Calls Try.prog 120 #[sAgg a n c a' n' c', bAgg s ab nb cb, .slice al m cl] w fun e w' => e = .returned (.int .i64 (ckF f g s xs l)) ∧ Below w.heap.size w w' := by
  have hA := (Loc.new w rfl #[.slice a n c, .slice a' n' c'] 35).alloc (.cells #[.int .i64 s, .slice ab nb cb] 24)
  have hE := Loc.new (w.alloc (.cells #[.slice a n c, .slice a' n' c'] 35)) rfl #[.int .i64 s, .slice ab nb cb] 24
  rw [size_alloc] at hE
  have hB := below_al (below_al (Below.refl w.heap.size w) (.cells #[.slice a n c, .slice a' n' c'] 35)) (.cells #[.int .i64 s, .slice ab nb cb] 24)
  cases q1 : isSol f g with
  | false =>
    have HQ : Hid (ckF f g s xs l = 1) := Lib.hid (by unfold ckF; rw [q1]; rfl)
    have H1 := Lib.hid q1; clear q1
    go_enter Try.func120, Try.ntmps120
    go_wp2_with fail
    generalize (w.alloc (.cells #[.slice a n c, .slice a' n' c'] 35)).alloc (.cells #[.int .i64 s, .slice ab nb cb] 24) = w0 at *
    refine (isSolution_any _ _ _ _ _ _ _ _ _ (h1.below hB) (h2.below hB) hm1 hm2).mono ?_
    rintro e w1 ⟨rfl, hb1⟩
    rw [H1.out]
    go_wp2
    go_ret
    exact ⟨ret_int HQ.out.symm, below_th hB hb1⟩
  | true =>
    have H1 := Lib.hid q1
    obtain ⟨hn1, hn12, _, _⟩ := isSol_sq q1
    have hfl := h1.len
    rw [← hfl] at hn1 hn12
    cases q2 : isBr s xs with
    | false =>
      have HQ : Hid (ckF f g s xs l = 1) := Lib.hid (by unfold ckF; rw [q1, q2]; rfl)
      have H2 := Lib.hid q2; clear q1 q2 hfl
      go_enter Try.func120, Try.ntmps120
      go_wp2_with fail
      generalize (w.alloc (.cells #[.slice a n c, .slice a' n' c'] 35)).alloc (.cells #[.int .i64 s, .slice ab nb cb] 24) = w0 at *
      refine (isSolution_any _ _ _ _ _ _ _ _ _ (h1.below hB) (h2.below hB) hm1 hm2).mono ?_
      rintro e w1 ⟨rfl, hb1⟩
      rw [H1.out]
      have lE := (hE.below hb1 hE.lt).two
      go_wp2_with fail
      refine (isBraid_any _ _ _ _ xs _ (hr.below (below_th hB hb1)) hnb).mono ?_
      rintro e w2 ⟨rfl, hb2⟩
      rw [H2.out]
      go_wp2
      go_ret
      exact ⟨ret_int HQ.out.symm, below_th (below_th hB hb1) hb2⟩
    | true =>
      have H2 := Lib.hid q2
      have hs26 := (isBr_let q2).1
      obtain ⟨S, rfl⟩ : ∃ S : Nat, s = S := ⟨s.toNat, by omega⟩
      have hml := hl.len
      by_cases q3 : m = S
      · subst q3
        have b3 : ((m : Int) != (m : Int)) = false := by simp
        have HQ : Hid (ckF f g m xs l = if l.all (rngB 0 ((n : Int) - 1)) then 0 else 2) := Lib.hid (by unfold ckF; rw [q1, q2, ← hfl, ← hml]; simp)
        clear q1 q2 hfl hml
        cases q4 : l.all (rngB 0 ((n : Int) - 1))
        all_goals
          have H4 := Lib.hid q4
          rw [q4] at HQ
          clear q4
          go_enter Try.func120, Try.ntmps120
          go_wp2_with fail
          generalize (w.alloc (.cells #[.slice a n c, .slice a' n' c'] 35)).alloc (.cells #[.int .i64 m, .slice ab nb cb] 24) = w0 at *
          refine (isSolution_any _ _ _ _ _ _ _ _ _ (h1.below hB) (h2.below hB) hm1 hm2).mono ?_
          rintro e w1 ⟨rfl, hb1⟩
          rw [H1.out]
          have hE1 := hE.below hb1 hE.lt
          have hA1 := hA.below hb1 hA.lt
          have lE := hE1.two
          have hB1 := below_th hB hb1
          clear hE hA hB hb1
          go_wp2_with fail
          refine (isBraid_any _ _ _ _ xs _ (hr.below hB1) hnb).mono ?_
          rintro e w2 ⟨rfl, hb2⟩
          rw [H2.out]
          have lE2 := (hE1.below hb2 hE1.lt).two
          have lA2 := (hA1.below hb2 hA1.lt).two
          have hB2 := below_th hB1 hb2
          clear lE hE1 hA1 hB1 hb2
          go_wp2_with fail
          refine (areElements_any _ _ _ _ l _ (hl.below hB2) hm (by omega)).mono ?_
          rintro e w3 ⟨rfl, rfl⟩
          rw [H4.out]
          go_wp2
          go_ret
          exact ⟨ret_int HQ.out.symm, hB2⟩
      · have b3 : ((m : Int) != (S : Int)) = true := by simp; omega
        have HQ : Hid (ckF f g S xs l = 2) := Lib.hid (by unfold ckF; rw [q1, q2, ← hml]; simp; omega)
        clear q1 q2 hfl hml q3
        go_enter Try.func120, Try.ntmps120
        go_wp2_with fail
        generalize (w.alloc (.cells #[.slice a n c, .slice a' n' c'] 35)).alloc (.cells #[.int .i64 S, .slice ab nb cb] 24) = w0 at *
        refine (isSolution_any _ _ _ _ _ _ _ _ _ (h1.below hB) (h2.below hB) hm1 hm2).mono ?_
        rintro e w1 ⟨rfl, hb1⟩
        rw [H1.out]
        have hE1 := hE.below hb1 hE.lt
        have lE := hE1.two
        have hB1 := below_th hB hb1
        go_wp2_with fail
        refine (isBraid_any _ _ _ _ xs _ (hr.below hB1) hnb).mono ?_
        rintro e w2 ⟨rfl, hb2⟩
        rw [H2.out]
        have lE2 := (hE1.below hb2 hE1.lt).two
        go_wp2
        go_ret
        exact ⟨ret_int HQ.out.symm, below_th hB1 hb2⟩

end Go.Proofs.Ythkpdodhkgdiaaa
