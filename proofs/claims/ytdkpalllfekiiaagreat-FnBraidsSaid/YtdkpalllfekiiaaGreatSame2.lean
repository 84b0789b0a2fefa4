/-
  The reference's question whether two tables are equal.
  No condition but bounds on lengths.
-/
import Derived.Test.YtdkpalllfekiiaaGreatBase
namespace Go.Proofs.YtdkpalllfekiiaaGreat
set_option maxRecDepth 100000
set_option linter.unusedVariables false
set_option linter.unusedSimpArgs false
open Go.RowKit

theorem tab_ext {xs ys : List (List Int)} (hl : xs.length = ys.length) (h : ∀ j, j < xs.length → xs.getD j [] = ys.getD j []) : xs = ys := by
  apply List.ext_getElem hl
  intro i h1 h2
  have := h i h1
  simpa [List.getD_eq_getElem?_getD, List.getElem?_eq_getElem h1, List.getElem?_eq_getElem h2] using this

set_option maxHeartbeats 4000000 in
theorem l01Same2_any (a1 a2 : Option Addr) (n1 n2 c1 c2 : Nat) (xs ys : List (List Int)) (w : World) (h1 : Tbl w a1 n1 xs) (h2 : Tbl w a2 n2 ys) (hm : n1 ≤ 9223372036854775807) :
    Calls Tryz.prog 33 #[.slice a1 n1 c1, .slice a2 n2 c2] w fun e w' => e = .returned (.bool (decide (xs = ys))) ∧ ∃ m, w' = w.drewN m := by
  have HL1 := Lib.hid h1.len
  have HL2 := Lib.hid h2.len
  by_cases hl : n1 = n2
  · subst hl
    have hb : ((n1 : Int) != (n1 : Int)) = false := by simp
    go_enter Tryz.func33, Tryz.ntmps33
    go_wp2
    clear hb
    go_loopw [5] (fun i wr => ∃ k : Nat, k ≤ n1 ∧ i = .int .i64 k ∧ Hid (∀ j, j < k → xs.getD j [] = ys.getD j []) ∧ Hid (∃ n, wr = w.drewN n)) (fun i _ => n1 - (intOf i).toNat)
    case atStart => exact ⟨0, Nat.zero_le _, rfl, Lib.hid fun j hj => absurd hj (by omega), Lib.hid ⟨0, rfl⟩⟩
    case round =>
      obtain ⟨k, hk, rfl, HT, HW⟩ := hrel
      have h1r : Tbl wr a1 n1 xs := by obtain ⟨m, hm⟩ := HW.out; rw [hm]; exact h1.drewN m
      have h2r : Tbl wr a2 n1 ys := by obtain ⟨m, hm⟩ := HW.out; rw [hm]; exact h2.drewN m
      by_cases hlt : k < n1
      · obtain ⟨b3, o3, a3, n3, c3, rfl, g3, r3, l3⟩ := h1r.at k hlt
        obtain ⟨b4, o4, a4, n4, c4, rfl, g4, r4, l4⟩ := h2r.at k hlt
        obtain ⟨X, HX⟩ : ∃ X, Hid (xs.getD k [] = X) := ⟨_, rfl⟩
        obtain ⟨Y, HY⟩ : ∃ Y, Hid (ys.getD k [] = Y) := ⟨_, rfl⟩
        rw [HX.out] at r3
        rw [HY.out] at r4
        have j1 : (0 : Int) ≤ (k : Int) := by omega
        have j2 : (k : Int) < (n1 : Int) := by omega
        clear h1r h2r
        obtain ⟨D, HD⟩ : ∃ D, Hid (decide (X = Y) = D) := ⟨_, rfl⟩
        have HSA : Hid (∀ m, Calls Tryz.prog 71 #[.slice a3 n3 c3, .slice a4 n4 c4] (wr.drewN m) fun e w'' => e = .returned (.bool D) ∧ ∃ k, w'' = wr.drewN k) := Lib.hid fun m => (l01Same_any a3 a4 n3 n4 c3 c4 X Y (wr.drewN m) (r3.drewN m) (r4.drewN m) l3).mono fun e w'' ⟨he, k, hk⟩ => ⟨by rw [he, HD.out], m + k, by rw [hk, World.drewN_drewN]⟩
        cases D with
        | true =>
          go_wp2
          go_quiet ((go_at_call 71; exact HSA.out _))
          go_wp2
          go_roundw
          case rel => exact ⟨k + 1, by omega, by go_num, Lib.hid fun j hj => by
            by_cases e : j = k
            · subst e; rw [HX.out, HY.out]; exact of_decide_eq_true HD.out
            · exact HT.out j (by omega), Lib.hid (by obtain ⟨m, hm⟩ := HW.out; exact ⟨m + nq, by rw [hm, World.drewN_drewN]⟩)⟩
          case measure => simp [intOf]; omega
        | false =>
          go_wp2
          go_quiet ((go_at_call 71; exact HSA.out _))
          go_wp2
          go_ret
          exact ⟨ret_bool (by
            symm; rw [decide_eq_false_iff_not]; rintro rfl
            have := of_decide_eq_false HD.out
            exact this (by rw [← HX.out, ← HY.out])), by obtain ⟨m, hm⟩ := HW.out; exact ⟨m + nq, by rw [hm, World.drewN_drewN]⟩⟩
      · obtain rfl : n1 = k := by omega
        have HE : Hid (xs = ys) := Lib.hid (tab_ext (by have := HL1.out; have := HL2.out; omega) fun j hj => HT.out j (by have := HL1.out; omega))
        go_wp2
        go_ret
        exact ⟨ret_bool (by rw [HE.out]; simp), HW.out⟩
  · have hb : ((n1 : Int) != (n2 : Int)) = true := by simp; omega
    have hne : ¬ xs = ys := by rintro rfl; have := HL1.out; have := HL2.out; omega
    go_enter Tryz.func33, Tryz.ntmps33
    go_wp2
    go_ret
    exact ⟨ret_bool (by simp [hne]), 0, rfl⟩
end Go.Proofs.YtdkpalllfekiiaaGreat
