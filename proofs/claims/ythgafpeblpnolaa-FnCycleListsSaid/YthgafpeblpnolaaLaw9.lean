/-
  The laws' own small functions: equal lists, equal tables, equal braids, the greatest number, a long code.
  No condition but bounds on lengths.
-/
import Derived.Test.YthgafpeblpnolaaBase
import Derived.Test.YthgafpeblpnolaaLnkL
namespace Go.Proofs.Ythgafpeblpnolaa
set_option maxRecDepth 100000
set_option linter.unusedVariables false
set_option linter.unusedSimpArgs false
open Go.RowKit

set_option maxHeartbeats 400000 in
theorem likeInts_any (a1 a2 : Option Addr) (n1 n2 c1 c2 : Nat) (xs ys : List Int) (w : World) (h1 : Row w a1 n1 xs) (h2 : Row w a2 n2 ys) (hm : n1 ≤ 9223372036854775807) :
    Calls Try.prog 39 #[.slice a1 n1 c1, .slice a2 n2 c2] w fun e w' => e = .returned (.bool (decide (xs = ys))) ∧ ∃ n, w' = w.drewN n := by
  have hl1 := h1.len
  have hl2 := h2.len
  by_cases hl : n1 = n2
  · subst hl
    have HL := Lib.hid hl1; have HL2 := Lib.hid hl2; clear hl1 hl2
    have hb : ((n1 : Int) != (n1 : Int)) = false := by simp
    go_enter Try.func39, Try.ntmps39
    go_wp2
    clear hb
    go_loopw [5] (fun i wr => ∃ k : Nat, k ≤ n1 ∧ i = .int .i64 k ∧ xs.take k = ys.take k ∧ ∃ n, wr = w.drewN n) (fun i _ => n1 - (intOf i).toNat)
    case atStart => exact ⟨0, Nat.zero_le _, rfl, by simp, 0, rfl⟩
    case round =>
      obtain ⟨k, hk, rfl, ht, n, rfl⟩ := hrel
      have HT := Lib.hid ht; clear ht
      by_cases hlt : k < n1
      · obtain ⟨b1, o1, rfl, g1⟩ := h1.at k hlt
        obtain ⟨b2, o2, rfl, g2⟩ := h2.at k hlt
        have hx : k < xs.length := by have := HL.out; omega
        have hy : k < ys.length := by have := HL2.out; omega
        clear h1 h2
        go_wp2
        go_quiet (fail)
        go_wp2
        · go_ret
          refine ⟨ret_bool ?_, n + nq, by rw [World.drewN_drewN]⟩
          rename_i hne
          simp only [Bool.false_eq, decide_eq_false_iff_not]
          rintro rfl
          simp at hne
        · go_roundw
          case rel =>
            rename_i hne
            refine ⟨k + 1, by omega, by go_num, take_eq_succ hx hy HT.out (by simpa using hne), n + nq, rfl⟩
          case measure => simp [intOf]; omega
      · obtain rfl : k = n1 := by omega
        go_wp2
        go_ret
        refine ⟨ret_bool ?_, _, rfl⟩
        have := HT.out
        rw [List.take_of_length_le (by have := HL.out; omega), List.take_of_length_le (by have := HL2.out; omega)] at this
        simp [this]
  · have hb : ((n1 : Int) != (n2 : Int)) = true := by simp; omega
    have hne : ¬ xs = ys := by rintro rfl; omega
    clear hl1 hl2
    go_enter Try.func39, Try.ntmps39
    go_wp2
    go_ret
    exact ⟨ret_bool (by simp [hne]), 0, rfl⟩

set_option maxHeartbeats 1000000 in
theorem same9_any (a1 a2 : Option Addr) (n1 n2 c1 c2 : Nat) (xs ys : List (List Int)) (w : World) (h1 : Tbl w a1 n1 xs) (h2 : Tbl w a2 n2 ys) (hm : n1 ≤ 9223372036854775807) :
    Calls Try.prog 17 #[.slice a1 n1 c1, .slice a2 n2 c2] w fun e w' => e = .returned (.bool (decide (xs = ys))) ∧ ∃ n, w' = w.drewN n := by
  have hl1 := h1.len
  have hl2 := h2.len
  by_cases hl : n1 = n2
  · subst hl
    have HL := Lib.hid hl1; have HL2 := Lib.hid hl2; clear hl1 hl2
    have hb : ((n1 : Int) != (n1 : Int)) = false := by simp
    go_enter Try.func17, Try.ntmps17
    go_wp2
    clear hb
    go_loopw [5] (fun i wr => ∃ k : Nat, k ≤ n1 ∧ i = .int .i64 k ∧ Hid (xs.take k = ys.take k) ∧ Hid (∃ n, wr = w.drewN n)) (fun i _ => n1 - (intOf i).toNat)
    case atStart => exact ⟨0, Nat.zero_le _, rfl, by simp [Hid], ⟨0, rfl⟩⟩
    case round =>
      obtain ⟨k, hk, rfl, HT, HW⟩ := hrel
      obtain ⟨m, hm'⟩ := HW.out
      have h1' : Tbl wr a1 n1 xs := by rw [hm']; exact h1.drewN m
      have h2' : Tbl wr a2 n1 ys := by rw [hm']; exact h2.drewN m
      clear hm'
      by_cases hlt : k < n1
      · obtain ⟨b1, o1, a1', m1, c1', rfl, g1, r1, lm1⟩ := h1'.at k hlt
        obtain ⟨b2, o2, a2', m2, c2', rfl, g2, r2, lm2⟩ := h2'.at k hlt
        have hx : k < xs.length := by have := HL.out; omega
        have hy : k < ys.length := by have := HL2.out; omega
        rw [Tbl.getD hx] at r1
        rw [Tbl.getD hy] at r2
        clear h1' h2' h1 h2
        by_cases he : xs[k] = ys[k]
        · have hq : ∀ q, Calls Try.prog 39 #[.slice a1' m1 c1', .slice a2' m2 c2'] (wr.drewN q) fun e w' => e = .returned (.bool true) ∧ ∃ m, w' = (wr.drewN q).drewN m := fun q =>
            (likeInts_any _ _ _ _ _ _ _ _ _ (r1.drewN q) (r2.drewN q) lm1).mono fun e w' ⟨h, h'⟩ => ⟨h.trans (ret_bool (by simpa using he)), h'⟩
          have HQ := Lib.hid hq; have HE := Lib.hid he; clear hq he
          go_wp2
          go_quiet ((go_at_call 39; exact Calls.quiet_of (HQ.out _)))
          go_wp2
          go_roundw
          case rel =>
            refine ⟨k + 1, by omega, by go_num, ?_, ?_⟩
            · show xs.take (k + 1) = ys.take (k + 1)
              rw [List.take_succ_eq_append_getElem hx, List.take_succ_eq_append_getElem hy, HT.out, HE.out]
            · obtain ⟨m, hm⟩ := HW.out
              exact ⟨m + nq, by rw [hm, World.drewN_drewN]⟩
          case measure => simp [intOf]; omega
        · have hq : ∀ q, Calls Try.prog 39 #[.slice a1' m1 c1', .slice a2' m2 c2'] (wr.drewN q) fun e w' => e = .returned (.bool false) ∧ ∃ m, w' = (wr.drewN q).drewN m := fun q =>
            (likeInts_any _ _ _ _ _ _ _ _ _ (r1.drewN q) (r2.drewN q) lm1).mono fun e w' ⟨h, h'⟩ => ⟨h.trans (ret_bool (by simpa using he)), h'⟩
          have hne : ¬ xs = ys := by rintro rfl; exact he rfl
          have HQ := Lib.hid hq; have HE := Lib.hid hne; clear hq he hne
          go_wp2
          go_quiet ((go_at_call 39; exact Calls.quiet_of (HQ.out _)))
          go_wp2
          go_ret
          obtain ⟨m, hm⟩ := HW.out
          exact ⟨ret_bool (by simp [HE.out]), m + nq, by rw [hm, World.drewN_drewN]⟩
      · obtain rfl : k = n1 := by omega
        clear h1' h2' h1 h2
        go_wp2
        go_ret
        refine ⟨ret_bool ?_, HW.out⟩
        have := HT.out
        rw [List.take_of_length_le (by have := HL.out; omega), List.take_of_length_le (by have := HL2.out; omega)] at this
        simp [this]
  · have hb : ((n1 : Int) != (n2 : Int)) = true := by simp; omega
    have hne : ¬ xs = ys := by rintro rfl; omega
    clear hl1 hl2
    go_enter Try.func17, Try.ntmps17
    go_wp2
    go_ret
    exact ⟨ret_bool (by simp [hne]), 0, rfl⟩

theorem same9_same (a1 a2 : Option Addr) (n1 n2 c1 c2 : Nat) (xs : List (List Int)) (w : World) (h1 : Tbl w a1 n1 xs) (h2 : Tbl w a2 n2 xs) (hm : n1 ≤ 9223372036854775807) :
    Calls Try.prog 17 #[.slice a1 n1 c1, .slice a2 n2 c2] w fun e w' => e = .returned (.bool true) ∧ Below w.heap.size w w' :=
  (same9_any a1 a2 n1 n2 c1 c2 xs xs w h1 h2 hm).mono fun e w' ⟨he, m, hw⟩ => ⟨he.trans (ret_bool (by simp)), by rw [hw]; exact below_drewN (Below.refl _ _) m⟩
theorem likeInts_same (a1 a2 : Option Addr) (n1 n2 c1 c2 : Nat) (xs : List Int) (w : World) (h1 : Row w a1 n1 xs) (h2 : Row w a2 n2 xs) (hm : n1 ≤ 9223372036854775807) :
    Calls Try.prog 39 #[.slice a1 n1 c1, .slice a2 n2 c2] w fun e w' => e = .returned (.bool true) ∧ Below w.heap.size w w' :=
  (likeInts_any a1 a2 n1 n2 c1 c2 xs xs w h1 h2 hm).mono fun e w' ⟨he, m, hw⟩ => ⟨he.trans (ret_bool (by simp)), by rw [hw]; exact below_drewN (Below.refl _ _) m⟩
theorem big_any (a : Option Addr) (n c : Nat) (w : World) (hm : n ≤ 9223372036854775807) :
    Calls Try.prog 10 #[.slice a n c] w fun e w' => e = .returned (.bool (decide (4096 < n))) ∧ w = w' := by
  go_enter Try.func10, Try.ntmps10
  go_wp2
  go_ret
  refine ⟨ret_bool (by rw [Bool.eq_iff_iff]; simp; try omega), rfl⟩
end Go.Proofs.Ythgafpeblpnolaa
