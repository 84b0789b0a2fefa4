/-
  The program's next permutation, in place.
  No condition but bounds on lengths.
-/
import Derived.Test.YtehomfbehhlhmaaRevM
import Derived.Test.YtehomfbehhlhmaaBase
namespace Go.Proofs.Ytehomfbehhlhmaa
set_option maxRecDepth 100000
set_option linter.unusedVariables false
set_option linter.unusedSimpArgs false
open Go.RowKit

/-- what nextPermutation leaves -/
def NxtP (w : World) (lo g n c : Nat) (p : List Int) (e : Ending) (w' : World) : Prop :=
  (∃ q, nxP p = some q ∧ e = .returned (.bool true) ∧ Own w' lo (some ⟨g, 0, none⟩) n c q ∧ Touch (fun q => q = g) w w') ∨ (nxP p = none ∧ e = .returned (.bool false) ∧ Own w' lo (some ⟨g, 0, none⟩) n c p ∧ Touch (fun q => q = g) w w')
set_option maxHeartbeats 8000000 in
theorem nextPermutation_any (g n c lo : Nat) (p : List Int) (w : World) (h1 : Own w lo (some ⟨g, 0, none⟩) n c p) (hn1 : 1 ≤ n) (hn : n ≤ 12) :
    Calls Try.prog 190 #[.slice (some ⟨g, 0, none⟩) n c] w (NxtP w lo g n c p) := by
  have HL := Lib.hid h1.len
  have hcap := h1.cap
  go_enter Try.func190, Try.ntmps190
  go_wp2
  go_loopw [3] (fun i wr => ∃ j : Nat, j ≤ n - 1 ∧ i = .int .i64 ((j : Int) - 1) ∧ Hid (nxI p j = nxI p (n - 1)) ∧ Hid (∃ m, wr = w.drewN m)) (fun i _ => (intOf i + 1).toNat)
  case atStart => exact ⟨n - 1, Nat.le_refl _, by rw [show ((n - 1 : Nat) : Int) - 1 = (n : Int) - 2 by omega], rfl, ⟨0, rfl⟩⟩
  case round =>
    obtain ⟨j, hj, rfl, HJ, HW⟩ := hrel
    obtain ⟨m0, hm0⟩ := HW.out
    have ho : Own wr lo (some ⟨g, 0, none⟩) n c p := by rw [hm0]; exact h1.drewN m0
    clear hm0
    rcases j with _ | j
    · rw [show (((0 : Nat) : Int)) - 1 = -1 from rfl]
      have HN : Hid (nxP p = none) := Lib.hid (by unfold nxP; rw [← HL.out, ← HJ.out]; rfl)
      have d1 : decide ((0 : Int) ≤ -1) = false := rfl
      go_wp2
      go_quiet (fail)
      go_wp2
      go_ret
      obtain ⟨m1, hm1⟩ := HW.out
      exact .inr ⟨HN.out, rfl, ho.drewN _, by rw [hm1, World.drewN_drewN]; exact (Touch.refl _ _).drewN _⟩
    · rw [show (((j + 1 : Nat) : Int)) - 1 = (j : Int) by omega]
      obtain ⟨_, hc, hf⟩ := ho.cells
      have c1 := hc j (by omega)
      have c2 := hc (j + 1) (by omega)
      obtain ⟨X, HX⟩ : ∃ X, Hid (p.getD j 0 = X) := ⟨_, rfl⟩
      obtain ⟨Y, HY⟩ : ∃ Y, Hid (p.getD (j + 1) 0 = Y) := ⟨_, rfl⟩
      rw [HX.out] at c1
      rw [HY.out] at c2
      have i1 : (0 : Int) ≤ (j : Int) := by omega
      have i2 : (j : Int) < (n : Int) := by omega
      have i3 : IntKind.i64.wrap ((j : Int) + 1) = (j : Int) + 1 := IntWalk.i64_in _ ⟨by omega, by omega⟩
      have i4 : (0 : Int) ≤ (j : Int) + 1 := by omega
      have i5 : (j : Int) + 1 < (n : Int) := by omega
      have i6 : ((j : Int) + 1).toNat = j + 1 := by omega
      clear hc hf
      by_cases hXY : Y < X
      · have HJ1 : Hid (nxI p j = nxI p (n - 1)) := Lib.hid (by
          rw [← HJ.out]; show _ = (if p.getD (j + 1) 0 < p.getD j 0 then nxI p j else some j)
          rw [HX.out, HY.out, if_pos hXY])
        go_wp2
        go_quiet (fail)
        clear i3 i6
        go_wp2
        go_roundw
        case rel => exact ⟨j, by omega, by go_num, HJ1, by obtain ⟨m1, hm1⟩ := HW.out; exact ⟨m1 + nq, by rw [hm1, World.drewN_drewN]⟩⟩
        case measure => simp [intOf]; try omega
      · have HJ1 : Hid (nxI p (n - 1) = some j) := Lib.hid (by
          rw [← HJ.out]; show (if p.getD (j + 1) 0 < p.getD j 0 then nxI p j else some j) = _
          rw [HX.out, HY.out, if_neg hXY])
        go_wp2
        go_quiet (fail)
        clear i3 i6
        go_wp2
        have hW1 : Hid (∃ m, wr.drewN nq = w.drewN m) := Lib.hid (by obtain ⟨m1, hm1⟩ := HW.out; exact ⟨m1 + nq, by rw [hm1, World.drewN_drewN]⟩)
        have hj1 : j + 1 ≤ n - 1 := hj
        go_loopw [4] (fun s4 wr => ∃ k : Nat, k ≤ n - 1 ∧ j < k ∧ s4 = .int .i64 k ∧ Hid (nxK p X k = nxK p X (n - 1)) ∧ Hid (∃ m, wr = w.drewN m)) (fun s4 _ => (intOf s4).toNat)
        case atStart => exact ⟨n - 1, Nat.le_refl _, by omega, by rw [show ((n - 1 : Nat) : Int) = (n : Int) - 1 by omega], rfl, hW1.out⟩
        case round =>
          obtain ⟨k, hk, hjk, rfl, HK, HW2⟩ := hrel
          obtain ⟨m2, hm2⟩ := HW2.out
          have ho2 : Own wr lo (some ⟨g, 0, none⟩) n c p := by rw [hm2]; exact h1.drewN m2
          clear hm2
          obtain ⟨_, hc, hf⟩ := ho2.cells
          have c3 := hc j (by omega)
          have c4 := hc k (by omega)
          obtain ⟨Z, HZ⟩ : ∃ Z, Hid (p.getD k 0 = Z) := ⟨_, rfl⟩
          rw [HX.out] at c3
          rw [HZ.out] at c4
          have k1 : (0 : Int) ≤ (k : Int) := by omega
          have k2 : (k : Int) < (n : Int) := by omega
          clear hc
          by_cases hZX : Z < X
          · obtain ⟨k', rfl⟩ : ∃ k', k = k' + 1 := ⟨k - 1, by omega⟩
            have hk' : j < k' := by
              rcases Nat.lt_or_ge j k' with h | h
              · exact h
              · exfalso
                obtain rfl : j = k' := by omega
                have e1 := HZ.out
                have e2 := HY.out
                rw [e2] at e1
                omega
            have HK1 : Hid (nxK p X k' = nxK p X (n - 1)) := Lib.hid (by
              rw [← HK.out]; show _ = (if p.getD (k' + 1) 0 < X then nxK p X k' else k' + 1)
              rw [HZ.out, if_pos hZX])
            clear hf
            go_wp2
            go_quiet (fail)
            go_wp2
            go_roundw
            case rel => exact ⟨k', by omega, hk', by go_num, HK1, by obtain ⟨m1, hm1⟩ := HW2.out; exact ⟨m1 + nq, by rw [hm1, World.drewN_drewN]⟩⟩
            case measure => simp [intOf]; try omega
          · have HKK : Hid (nxK p X (n - 1) = k) := Lib.hid (by
              rw [← HK.out]
              obtain ⟨k', rfl⟩ : ∃ k', k = k' + 1 := ⟨k - 1, by omega⟩
              show (if p.getD (k' + 1) 0 < X then nxK p X k' else k' + 1) = _
              rw [HZ.out, if_neg hZX])
            have HQ : Hid (nxP p = some ((swpQ p j k).take (j + 1) ++ ((swpQ p j k).drop (j + 1)).reverse)) := Lib.hid (by
              unfold nxP
              rw [← HL.out, HJ1.out]
              show some _ = _
              rw [HX.out, HKK.out])
            have HSW : Hid (swpQ p j k = (p.set j Z).set k X) := Lib.hid (by unfold swpQ; rw [HX.out, HZ.out])
            have f3 := hf j
            have f4 := hf k
            clear hf
            go_wp2
            go_quiet (fail)
            go_wp2
            go_region
            all_goals
              have k3 : IntKind.i64.wrap ((j : Int) + 1) = (j : Int) + 1 := IntWalk.i64_in _ ⟨by omega, by omega⟩
              have k4 : ¬ c = j + 1 := by omega
              have k5 : (j : Int) + 1 ≤ (n : Int) := by omega
              have k6 : ((j : Int) + 1).toNat = j + 1 := by omega
              have hoS := ((ho2.drewN (nq + 1)).set j Z).set k X
              rw [← HSW.out] at hoS
              have hlq := hoS.len
              have hsp : swpQ p j k = (swpQ p j k).take (j + 1) ++ (swpQ p j k).drop (j + 1) := (List.take_append_drop _ _).symm
              rw [hsp] at hoS
              have hl1 : ((swpQ p j k).take (j + 1)).length = j + 1 := by rw [List.length_take]; omega
              have hl2 : ((swpQ p j k).drop (j + 1)).length = n - (j + 1) := by rw [List.length_drop]; omega
              have HLQ := Lib.hid hlq
              clear hlq hsp
              go_wp2_with fail
              refine (reverse_mid g n c lo (j + 1) (n - (j + 1)) _ _ _ _ hoS hl1 hl2).mono ?_
              rintro e w9 ⟨rfl, ho9, ht9⟩
              go_wp2
              go_ret
              refine .inl ⟨_, HQ.out, rfl, ho9, ?_⟩
              obtain ⟨m1, hm1⟩ := HW2.out
              refine Touch.trans ?_ ht9
              rw [hm1]
              exact Touch.set (S := fun q => q = g) (p := ⟨g, k, none⟩) (Touch.set (S := fun q => q = g) (p := ⟨g, j, none⟩) (((Touch.refl (fun q => q = g) w).drewN m1).drewN (nq + 1)) rfl _) rfl _
end Go.Proofs.Ytehomfbehhlhmaa
