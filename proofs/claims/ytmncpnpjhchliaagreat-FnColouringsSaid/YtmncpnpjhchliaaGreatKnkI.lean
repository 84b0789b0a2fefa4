/-
  The kink of a rack, and is it the identity: what the program's functions compute.
  No condition but bounds.
-/
import Derived.Test.YtmncpnpjhchliaaGreatBase3
import Derived.Test.YtmncpnpjhchliaaGreatBase
namespace Go.Proofs.YtmncpnpjhchliaaGreat
set_option maxRecDepth 100000
set_option linter.unusedVariables false
set_option linter.unusedSimpArgs false
open Go.RowKit

set_option maxHeartbeats 1000000 in
theorem increasing_any (a : Option Addr) (n c : Nat) (xs : List Int) (w : World) (h : Row w a n xs) (hm : n ≤ 1000000) :
    Calls Tryz.prog 140 #[.slice a n c] w fun e w' => e = .returned (.bool (incOk xs)) ∧ ∃ k, w' = w.drewN k := by
  have HL := Lib.hid h.len
  go_enter Tryz.func140, Tryz.ntmps140
  go_wp2
  go_loopw [3] (fun i wr => ∃ k : Nat, i = .int .i64 ((k + 1 : Nat) : Int) ∧ Hid (∀ j, j < k → j + 1 < n → xs.getD j 0 < xs.getD (j + 1) 0) ∧ ∃ m, wr = w.drewN m) (fun i _ => n - (intOf i).toNat)
  case atStart => exact ⟨0, rfl, Lib.hid fun j hj => absurd hj (by omega), 0, rfl⟩
  case round =>
    obtain ⟨k, rfl, hI, m, rfl⟩ := hrel
    by_cases hlt : k + 1 < n
    · obtain ⟨b1, o1, rfl, g1⟩ := h.at k (by omega)
      obtain ⟨b2, o2, e2, g2⟩ := h.at (k + 1) hlt
      cases e2
      have i1 : IntKind.i64.wrap (((k + 1 : Nat) : Int) - 1) = (k : Int) := (IntWalk.i64_in _ (by omega)).trans (by omega)
      have i2 : (0 : Int) ≤ (k : Int) := by omega
      have i3 : (k : Int) < (n : Int) := by omega
      have i4 : (0 : Int) ≤ ((k + 1 : Nat) : Int) := by omega
      have i5 : ((k + 1 : Nat) : Int) < (n : Int) := by omega
      have i6 : (((k + 1 : Nat) : Int)).toNat = k + 1 := by omega
      clear h
      generalize hX : xs.getD k 0 = X at *
      generalize hY : xs.getD (k + 1) 0 = Y at *
      have HX := Lib.hid hX; have HY := Lib.hid hY
      clear hX hY
      have HI2 : Hid (((k + 1 : Nat) : Int) = ((k + 1 : Nat) : Int)) := Lib.hid rfl
      generalize hK : ((k + 1 : Nat) : Int) = K at *
      have HK := Lib.hid hK
      clear hK
      go_wp2
      go_quiet (fail)
      by_cases hge : X ≥ Y
      · go_wp2
        go_ret
        refine ⟨ret_bool ?_, m + nq, by rw [World.drewN_drewN]⟩
        rw [eq_comm]
        exact allN_no (k := k) (by have := HL.out; omega) (by rw [HX.out, HY.out]; simpa using hge)
      · go_wp2
        go_roundw
        case rel =>
          refine ⟨k + 1, by rw [← HK.out]; go_num, Lib.hid fun j hj hj2 => ?_, m + nq, rfl⟩
          by_cases e : j = k
          · subst e; rw [HX.out, HY.out]; omega
          · exact hI.out j (by omega) hj2
        case measure => rw [← HK.out] at *; simp [intOf]; omega
    · go_wp2
      go_ret
      refine ⟨ret_bool ?_, _, rfl⟩
      rw [eq_comm]
      exact allN_mk fun j hj => decide_eq_true (hI.out j (by have := HL.out; omega) (by have := HL.out; omega))

theorem isIdentity_any (a : Option Addr) (n c : Nat) (xs : List Int) (w : World) (h : Row w a n xs) (hm : n ≤ 1000000) :
    Calls Tryz.prog 108 #[.slice a n c] w fun e w' => e = .returned (.bool (incOk xs)) ∧ Below w.heap.size w w' := by
  go_enter Tryz.func108, Tryz.ntmps108
  go_wp2_with fail
  refine (increasing_any _ _ _ xs _ h hm).mono ?_
  rintro e w1 ⟨rfl, k, rfl⟩
  go_wp2
  go_ret
  exact ⟨rfl, below_drewN (Below.refl _ _) k⟩

theorem knk_step (n : Nat) (t : List (List Int)) (j : Nat) (h : j < n) : ((knkL n t).take j ++ List.replicate (n - j) 0).set j ((tv t j j : Nat) : Int) = (knkL n t).take (j + 1) ++ List.replicate (n - (j + 1)) 0 := rowP_step n (fun x => ((tv t x x : Nat) : Int)) j h
set_option maxHeartbeats 1000000 in
theorem kinkOf_any (a : Option Addr) (n c : Nat) (f : List (List Int)) (w : World) (h : Tbl w a n f) (hf : Sq n f) (hn1 : 1 ≤ n) (hn : n ≤ 12) :
    Calls Tryz.prog 52 #[rAgg a n c] w fun e w' => ∃ a' c', e = .returned (.slice a' n c') ∧ Own w' w.heap.size a' n c' (knkL n f) ∧ Below w.heap.size w w' := by
  have hA := Loc.new w rfl #[.slice a n c] 46
  have hB := below_al (Below.refl w.heap.size w) (.cells #[.slice a n c] 46)
  have hz := hA.lt
  obtain ⟨bf, of, A, O, C, rfl, gf⟩ := h.grid hf (by omega)
  clear h
  have HF := Lib.hid hf; clear hf
  have lA := hA.one
  go_enter Tryz.func52, Tryz.ntmps52
  generalize hw0 : w.alloc (.cells #[.slice (some ⟨bf, of, none⟩) n c] 46) = w0 at *
  go_wp2_with (at_make; refine make1 rfl rfl rfl rfl (by omega) ?_; intro w1 ho hs hb)
  have hA1 := hA.below hb hA.lt
  have hB1 := below_th hB hb
  go_loopw [11] (fun i wr => ∃ k : Nat, k ≤ n ∧ i = .int .i64 k ∧ Own wr w0.heap.size (some ⟨w0.heap.size, 0, none⟩) n n ((knkL n f).take k ++ List.replicate (n - k) 0) ∧ Loc wr w.heap.size #[.slice (some ⟨bf, of, none⟩) n c] 46 ∧ Below w.heap.size w wr) (fun i _ => n - (intOf i).toNat)
  case atStart => exact ⟨0, Nat.zero_le _, rfl, by simpa using ho, hA1, hB1⟩
  case round =>
    clear ho hb hA1 hB1 lA hA hs
    obtain ⟨k, hk, rfl, ho, hA, hB2⟩ := hrel
    by_cases hlt : k < n
    · obtain ⟨r1, k1⟩ := (gf.below hB2).look hlt hlt
      have lA := hA.one
      obtain ⟨_, hc, hfz⟩ := ho.cells
      have hc1 := hc k hlt
      have hf1 := hfz k
      have hset := Lib.hid (ho.set k ((tv f k k : Nat) : Int))
      have HST := Lib.hid (knk_step n f k hlt)
      clear hc hfz
      generalize tv f k k = V at *
      go_wp2
      go_roundw
      case rel => exact ⟨k + 1, by omega, by go_num, by rw [← HST.out]; exact hset.out, hA.setne (a := ⟨w0.heap.size, k, none⟩) (by show w.heap.size ≠ w0.heap.size; omega) _, below_setne hB2 (by show w.heap.size ≤ w0.heap.size; omega) _⟩
      case measure => simp [intOf]; omega
    · obtain rfl : k = n := by omega
      go_wp2
      go_ret
      refine ⟨_, _, rfl, ?_, hB2⟩
      rw [List.take_of_length_le (by rw [knk_len]; exact Nat.le_refl _), Nat.sub_self, List.replicate_zero, List.append_nil] at ho
      exact ho.mono (by omega)
end Go.Proofs.YtmncpnpjhchliaaGreat
