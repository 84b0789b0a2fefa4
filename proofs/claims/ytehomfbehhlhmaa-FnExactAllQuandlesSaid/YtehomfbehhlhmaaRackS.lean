/-
  Permutations and racks: what the reference's questions answer.
  No condition but bounds on lengths.
-/
import Derived.Test.YtehomfbehhlhmaaRackI
import Derived.Test.YtehomfbehhlhmaaSolT
import Derived.Test.YtehomfbehhlhmaaBase
namespace Go.Proofs.Ytehomfbehhlhmaa
set_option maxRecDepth 100000
set_option linter.unusedVariables false
set_option linter.unusedSimpArgs false
open Go.RowKit

set_option maxHeartbeats 1000000 in
theorem l01Perm_any (a : Option Addr) (n c : Nat) (p : List Int) (w : World) (h1 : Row w a n p) (hm : n ≤ 9223372036854775807) :
    Calls Try.prog 173 #[.slice a n c] w fun e w' => e = .returned (.bool (rngB 1 12 n && permOk p)) ∧ w = w' := by
  have hl := h1.len
  cases hv : rngB 1 12 n with
  | false =>
    have HC := Lib.hid (fun w => l01In_b n 1 12 false hv w)
    clear hv hl
    go_enter Try.func173, Try.ntmps173
    go_wp2_with fail
    refine (HC.out _).mono ?_
    rintro e w2 ⟨rfl, rfl⟩
    go_wp2
    go_ret
    exact ⟨rfl, rfl⟩
  | true =>
    have HC := Lib.hid (fun w => l01In_b n 1 12 true hv w)
    have HQ : Hid (permOk p = allN n fun x : Nat => p.contains (x : Int)) := Lib.hid (by unfold permOk; rw [hl])
    have hn12 : 1 ≤ n ∧ n ≤ 12 := by unfold rngB at hv; simp at hv; omega
    clear hv hl
    go_enter Try.func173, Try.ntmps173
    go_wp2_with fail
    refine (HC.out _).mono ?_
    rintro e w2 ⟨rfl, rfl⟩
    go_wp2
    go_loop [4] (fun i => ∃ k : Nat, k ≤ n ∧ i = .int .i64 k ∧ Hid (allN k (fun x : Nat => p.contains (x : Int)) = true)) (fun i => n - (intOf i).toNat)
    case atStart => exact ⟨0, Nat.zero_le _, rfl, Lib.hid rfl⟩
    case round =>
      obtain ⟨k, hk, rfl, hI⟩ := hrel
      by_cases hlt : k < n
      · have hcd : decide ((k : Int) ∈ p) = p.contains (k : Int) := by rw [Bool.eq_iff_iff]; simp
        have HH := Lib.hid (l01Has_any a n c p (k : Int) w h1 (by omega))
        cases hc : p.contains (k : Int) with
        | true =>
          rw [hc] at hcd
          have HD := Lib.hid hcd; have HCC := Lib.hid hc
          clear hc hcd
          go_wp2_with fail
          refine HH.out.mono ?_
          rintro e w2 ⟨rfl, rfl⟩
          rw [HD.out]
          go_wp2
          go_round
          case rel => exact ⟨k + 1, by omega, by go_num, Lib.hid (allN_succ hI.out HCC.out)⟩
          case measure => simp [intOf]; omega
        | false =>
          rw [hc] at hcd
          have HD := Lib.hid hcd; have HCC := Lib.hid hc
          clear hc hcd
          go_wp2_with fail
          refine HH.out.mono ?_
          rintro e w2 ⟨rfl, rfl⟩
          rw [HD.out]
          go_wp2
          go_ret
          exact ⟨ret_bool (by rw [HQ.out, allN_no hlt HCC.out]; rfl), rfl⟩
      · obtain rfl : k = n := by omega
        go_wp2
        go_ret
        exact ⟨ret_bool ((congrArg (fun b => true && b) (HQ.out.trans hI.out)).symm), rfl⟩

set_option maxHeartbeats 4000000 in
theorem l03Fault_any (a : Option Addr) (n c : Nat) (t : List (List Int)) (w : World) (h1 : Tbl w a n t) (hn1 : 1 ≤ n) (hn : n ≤ 12) (hf : Sq n t) :
    Calls Try.prog 174 #[.slice a n c] w (FltN (rkOk n t) w) := by
  obtain ⟨bf, of, A, O, C, rfl, gf⟩ := h1.grid hf hn1
  clear h1
  go_enter Try.func174, Try.ntmps174
  go_wp2
  go_loopw [4] (fun i wr => ∃ k : Nat, k ≤ n ∧ i = .int .i64 k ∧ Hid (allN k (fun x => allN n fun y => allN n fun z => rkAt t x y z) = true) ∧ ∃ m, wr = w.drewN m) (fun i _ => n - (intOf i).toNat)
  case atStart => exact ⟨0, Nat.zero_le _, rfl, Lib.hid rfl, 0, rfl⟩
  case round =>
    obtain ⟨x, hx, rfl, hx1, m1, rfl⟩ := hrel
    by_cases hlt : x < n
    · go_wp2
      go_loopw [5] (fun i wr => ∃ k : Nat, k ≤ n ∧ i = .int .i64 k ∧ Hid (allN k (fun y => allN n fun z => rkAt t x y z) = true) ∧ ∃ m, wr = w.drewN m) (fun i _ => n - (intOf i).toNat)
      case atStart => exact ⟨0, Nat.zero_le _, rfl, Lib.hid rfl, m1, rfl⟩
      case round =>
        obtain ⟨y, hy, rfl, hy1, m2, rfl⟩ := hrel
        by_cases hlty : y < n
        · go_wp2
          go_loopw [6] (fun i wr => ∃ k : Nat, k ≤ n ∧ i = .int .i64 k ∧ Hid (allN k (fun z => rkAt t x y z) = true) ∧ ∃ m, wr = w.drewN m) (fun i _ => n - (intOf i).toNat)
          case atStart => exact ⟨0, Nat.zero_le _, rfl, Lib.hid rfl, m2, rfl⟩
          case round =>
            obtain ⟨z, hz, rfl, hz1, m3, rfl⟩ := hrel
            by_cases hltz : z < n
            · have l1 := hf.lt hlty hltz
              have l2 := hf.lt hlt hlty
              have l3 := hf.lt hlt hltz
              obtain ⟨r1, k1⟩ := gf.look hlty hltz
              obtain ⟨r2, k2⟩ := gf.look hlt l1
              have k3 := gf.cell _ _ hlt hlty
              have k4 := gf.cell _ _ hlt hltz
              obtain ⟨r5, k5⟩ := gf.look l2 l3
              have hE : rkAt t x y z = decide (tv t x (tv t y z) = tv t (tv t x y) (tv t x z)) := rfl
              generalize tv t y z = q1 at *
              generalize tv t x y = q2 at *
              generalize tv t x z = q3 at *
              generalize tv t x q1 = A1 at *
              generalize tv t q2 q3 = A2 at *
              have HE := Lib.hid hE
              clear hE gf hf
              by_cases p1 : A1 = A2
              · have u1 : ((A1 : Int) != (A2 : Int)) = false := by simp [p1]
                have HE2 : Hid (rkAt t x y z = true) := Lib.hid (by rw [HE.out]; simp [p1])
                clear p1
                go_wp2
                go_quiet (fail)
                go_wp2
                go_roundw
                case rel => exact ⟨z + 1, by omega, by go_num, Lib.hid (allN_succ hz1.out HE2.out), _, rfl⟩
                case measure => simp [intOf]; omega
              · have u1 : ((A1 : Int) != (A2 : Int)) = true := by simp; omega
                have HE2 : Hid (rkAt t x y z = false) := Lib.hid (by rw [HE.out]; simp [p1])
                clear p1
                go_wp2
                go_quiet (fail)
                go_wp2
                go_ret
                exact ⟨.inr ⟨allN_no hlt (allN_no hlty (allN_no hltz HE2.out)), _, _, rfl⟩, below_al (below_drewN (Below.refl _ _) _) _⟩
            · obtain rfl : z = n := by omega
              go_wp2
              go_roundw
              case rel => exact ⟨y + 1, by omega, by go_num, Lib.hid (allN_succ hy1.out hz1.out), _, rfl⟩
              case measure => simp [intOf]; omega
        · obtain rfl : y = n := by omega
          go_wp2
          go_roundw
          case rel => exact ⟨x + 1, by omega, by go_num, Lib.hid (allN_succ hx1.out hy1.out), _, rfl⟩
          case measure => simp [intOf]; omega
    · obtain rfl : x = n := by omega
      go_wp2
      go_ret
      exact ⟨.inl ⟨hx1.out, rfl⟩, below_drewN (Below.refl _ _) _⟩

set_option maxHeartbeats 2000000 in
theorem l03Is_any (a : Option Addr) (n c : Nat) (t : List (List Int)) (w : World) (h1 : Tbl w a n t) (hm : n ≤ 9223372036854775807) :
    Calls Try.prog 128 #[rAgg a n c] w fun e w' => e = .returned (.bool (isRk t)) ∧ Below w.heap.size w w' := by
  have hA := Loc.new w rfl #[.slice a n c] 65
  cases hf : isTab t with
  | false =>
    have HQ : Hid (isRk t = false) := Lib.hid (isRk_no hf)
    have HF := Lib.hid hf; clear hf
    go_enter Try.func128, Try.ntmps128
    go_wp2_with fail
    refine (l01Table_any _ _ _ _ _ (h1.alloc _) hm).mono ?_
    rintro e w1 ⟨rfl, rfl⟩
    rw [HF.out]
    go_wp2
    go_ret
    exact ⟨ret_bool HQ.out.symm, below_al (Below.refl _ _) _⟩
  | true =>
    obtain ⟨hn1, hn12, sf⟩ := isTab_sq hf
    have hl := h1.len
    rw [← hl] at hn1 hn12 sf
    have HQ : Hid (isRk t = (t.all permOk && rkOk n t)) := Lib.hid (by unfold isRk; rw [hf, ← hl]; rfl)
    have HF := Lib.hid hf; have HSF := Lib.hid sf; have HL := Lib.hid hl
    have hr12 : rngB 1 12 (n : Int) = true := by unfold rngB; simp; omega
    have HR := Lib.hid hr12
    clear hf sf hl hr12
    have hB := below_al (Below.refl w.heap.size w) (.cells #[.slice a n c] 65)
    have t0 := h1.alloc (.cells #[.slice a n c] 65)
    have lA := hA.one
    go_enter Try.func128, Try.ntmps128
    go_wp2_with fail
    refine (l01Table_any _ _ _ _ _ (h1.alloc _) hm).mono ?_
    rintro e w1 ⟨rfl, rfl⟩
    rw [HF.out]
    go_wp2
    generalize w.alloc (.cells #[.slice a n c] 65) = w0 at *
    go_loop [3] (fun i => ∃ k : Nat, k ≤ n ∧ i = .int .i64 k ∧ Hid ((t.take k).all permOk = true)) (fun i => n - (intOf i).toNat)
    case atStart => exact ⟨0, Nat.zero_le _, rfl, Lib.hid (by simp)⟩
    case round =>
      obtain ⟨k, hk, rfl, hI⟩ := hrel
      by_cases hlt : k < n
      · obtain ⟨b, off, ai, ni, ci, rfl, g1, hri, hni⟩ := t0.at k hlt
        have hx : k < t.length := by have := HL.out; omega
        have hrl := HSF.out.row hlt
        have hll := hri.len
        obtain rfl : ni = n := by omega
        rw [Tbl.getD hx] at hri
        have HPP := Lib.hid (fun (w : World) (hr : Row w ai ni t[k]) => l01Perm_any ai ni ci t[k] w hr (by omega))
        cases hp : permOk t[k] with
        | true =>
          have HP := Lib.hid hp
          clear hp hrl hll t0
          go_wp2_with fail
          refine (HPP.out _ hri).mono ?_
          rintro e w2 ⟨rfl, rfl⟩
          rw [HR.out, HP.out]
          go_wp2
          go_round
          case rel => exact ⟨k + 1, by omega, by go_num, Lib.hid (all_get_succ hx hI.out HP.out)⟩
          case measure => simp [intOf]; omega
        | false =>
          have HP := Lib.hid hp
          clear hp hrl hll t0
          go_wp2_with fail
          refine (HPP.out _ hri).mono ?_
          rintro e w2 ⟨rfl, rfl⟩
          rw [HR.out, HP.out]
          go_wp2
          go_ret
          exact ⟨ret_bool (by rw [HQ.out, all_no hx HP.out]; rfl), hB⟩
      · obtain rfl : k = n := by omega
        have ha := hI.out
        rw [List.take_of_length_le (by have := HL.out; omega)] at ha
        have HA := Lib.hid ha; clear ha
        go_wp2_with fail
        refine (l03Fault_any _ _ _ t _ t0 hn1 hn12 HSF.out).mono ?_
        rintro e w3 ⟨he, hb3⟩
        rcases he with ⟨hc, rfl⟩ | ⟨hc, b, k', rfl⟩
        · have HD := Lib.hid hc; clear hc
          go_wp2
          go_ret
          exact ⟨ret_bool (by rw [HQ.out, HA.out, HD.out]; rfl), below_th hB hb3⟩
        · have HD := Lib.hid hc; clear hc
          go_wp2
          go_ret
          exact ⟨ret_bool (by rw [HQ.out, HA.out, HD.out]; rfl), below_th hB hb3⟩

end Go.Proofs.Ytehomfbehhlhmaa
