/-
  Walks and plain laws of this seat, some texts in one.
  No condition but bounds on lengths.
-/
import Derived.Test.YtpdgpgbgakinlaaGreatPa6
import Derived.Test.YtpdgpgbgakinlaaGreatPa8
import Derived.Test.YtpdgpgbgakinlaaGreatPa3
import Derived.Test.YtpdgpgbgakinlaaGreatPa5
import Derived.Deep.RegionHeld3
import Derived.Deep.LoopGhost
import Derived.Test.YtpdgpgbgakinlaaGreatPa4
import Derived.Test.YtpdgpgbgakinlaaGreatPa2
import Derived.Sort.LoopGhostIn
import Derived.RangeFuncNested
import Derived.RangeFuncBound
import Derived.RangeFuncCalls
import Derived.RangeFuncLeaves
import Derived.OwnWalkIn
import Derived.TacticsInMore
import Derived.LoopNIn
import Derived.LoopIn
import Derived.Test.YtpdgpgbgakinlaaGreatPa1
import Derived.BigRegion
namespace Go.Proofs.YtpdgpgbgakinlaaGreat
set_option maxRecDepth 100000
set_option linter.unusedVariables false
set_option linter.unusedSimpArgs false
open Go.RowKit
theorem rowOk_len {n m : Int} {xs : List Int} (h : (xs.length : Int) ≠ n) : rowOk n m xs = false := by unfold rowOk; simp [h]
theorem rowOk_mk {n m : Int} {xs : List Int} (h : (xs.length : Int) = n) : rowOk n m xs = xs.all (rngB 0 (m - 1)) := by unfold rowOk; simp [h]
set_option maxHeartbeats 2000000 in
theorem l01Table_any (a : Option Addr) (n c : Nat) (t : List (List Int)) (w : World) (h1 : Tbl w a n t) (hm : n ≤ 9223372036854775807) :
    Calls Tryz.prog 110 #[.slice a n c] w fun e w' => e = .returned (.bool (isTab t)) ∧ w = w' := by
  have hl := h1.len
  cases hp : rngB 1 12 n with
  | false =>
    have hq : isTab t = false := by unfold isTab; rw [← hl, hp]; rfl
    have HQ := Lib.hid hq
    have HC := Lib.hid (fun w => l01In_b n 1 12 false hp w); clear hp hl hq
    go_enter Tryz.func110, Tryz.ntmps110
    go_wp2_with fail
    refine (HC.out _).mono ?_
    rintro e w' ⟨rfl, rfl⟩
    go_wp2
    go_ret
    exact ⟨ret_bool HQ.out.symm, rfl⟩
  | true =>
    have hn12 : 1 ≤ n ∧ n ≤ 12 := by unfold rngB at hp; simp at hp; omega
    obtain ⟨hn1, hn12⟩ := hn12
    have HC := Lib.hid (fun w => l01In_b n 1 12 true hp w)
    have hq : isTab t = t.all (rowOk n n) := by unfold isTab; rw [← hl, hp]; rfl
    have HQ := Lib.hid hq; have HL := Lib.hid hl; clear hq hl hp
    go_enter Tryz.func110, Tryz.ntmps110
    go_wp2_with fail
    refine (HC.out _).mono ?_
    rintro e w' ⟨rfl, rfl⟩
    go_wp2
    go_loop [4] (fun i => ∃ k : Nat, k ≤ n ∧ i = .int .i64 k ∧ Hid ((t.take k).all (rowOk n n) = true)) (fun i => n - (intOf i).toNat)
    case atStart => exact ⟨0, Nat.zero_le _, rfl, Lib.hid (by simp)⟩
    case round =>
      obtain ⟨k, hk, rfl, hall⟩ := hrel
      by_cases hlt : k < n
      · obtain ⟨b, off, ai, ni, ci, rfl, g1, hri, hni⟩ := h1.at k hlt
        have hx : k < t.length := by have := HL.out; omega
        rw [Tbl.getD hx] at hri
        have hll := hri.len
        by_cases hnn : ni = n
        · subst hnn
          have b1 : ((ni : Int) != (ni : Int)) = false := by simp
          have HR : Hid (rowOk ni ni t[k] = t[k].all (rngB 0 ((ni : Int) - 1))) := Lib.hid (rowOk_mk (by omega))
          have HLL := Lib.hid hll; clear hll
          go_wp2
          go_loop [5] (fun i => ∃ j : Nat, j ≤ ni ∧ i = .int .i64 j ∧ Hid ((t[k].take j).all (rngB 0 ((ni : Int) - 1)) = true)) (fun i => ni - (intOf i).toNat)
          case atStart => exact ⟨0, Nat.zero_le _, rfl, Lib.hid (by simp)⟩
          case round =>
            obtain ⟨j, hj, rfl, hin⟩ := hrel
            by_cases hjt : j < ni
            · obtain ⟨b2, o2, rfl, g2⟩ := hri.at j hjt
              have hy : j < t[k].length := by have := HLL.out; omega
              have e : t[k].getD j 0 = t[k][j] := by simp [List.getD_eq_getElem?_getD, List.getElem?_eq_getElem hy]
              rw [e] at g2
              clear h1 hri e
              cases hv : rngB 0 ((ni : Int) - 1) t[k][j] with
              | true =>
                have HD := Lib.hid (fun w => l01In_b t[k][j] 0 ((ni : Int) - 1) true hv w)
                have HV := Lib.hid hv; clear hv
                generalize t[k][j] = V at g2 HD
                go_wp2_with fail
                refine (HD.out _).mono ?_
                rintro e w' ⟨rfl, rfl⟩
                go_wp2
                go_round
                case rel => exact ⟨j + 1, by omega, by go_num, Lib.hid (all_get_succ hy hin.out HV.out)⟩
                case measure => simp [intOf]; omega
              | false =>
                have HD := Lib.hid (fun w => l01In_b t[k][j] 0 ((ni : Int) - 1) false hv w)
                have HV := Lib.hid hv; clear hv
                generalize t[k][j] = V at g2 HD
                go_wp2_with fail
                refine (HD.out _).mono ?_
                rintro e w' ⟨rfl, rfl⟩
                go_wp2
                go_ret
                exact ⟨ret_bool (by rw [HQ.out]; exact (all_no hx (by rw [HR.out]; exact all_no hy HV.out)).symm), rfl⟩
            · obtain rfl : j = ni := by omega
              have ha := hin.out
              rw [List.take_of_length_le (by have := HLL.out; omega)] at ha
              have HA := Lib.hid ha; clear ha
              go_wp2
              go_round
              case rel => exact ⟨k + 1, by omega, by go_num, Lib.hid (all_get_succ hx hall.out (by rw [HR.out]; exact HA.out))⟩
              case measure => simp [intOf]; omega
        · have b1 : ((ni : Int) != (n : Int)) = true := by simp; omega
          have HN : Hid (rowOk n n t[k] = false) := Lib.hid (rowOk_len (by omega))
          clear hll hnn
          go_wp2
          go_ret
          exact ⟨ret_bool (by rw [HQ.out]; exact (all_no hx HN.out).symm), rfl⟩
      · obtain rfl : k = n := by omega
        have ha := hall.out
        rw [List.take_of_length_le (by have := HL.out; omega)] at ha
        have HA := Lib.hid ha; clear ha
        go_wp2
        go_ret
        exact ⟨ret_bool (by rw [HQ.out]; exact HA.out.symm), rfl⟩
set_option maxHeartbeats 1000000 in
theorem l02Map_any (a : Option Addr) (n c : Nat) (a' : Option Addr) (n' c' : Nat) (f g : List (List Int)) (w : World) (h1 : Tbl w a n f) (h2 : Tbl w a' n' g) (hm1 : n ≤ 9223372036854775807) (hm2 : n' ≤ 9223372036854775807) :
    Calls Tryz.prog 93 #[sAgg a n c a' n' c'] w fun e w' => e = .returned (.bool (isPm f g)) ∧ Below w.heap.size w w' := by
  have hl1 := h1.len
  have hl2 := h2.len
  have HL : Hid (decide (f.length = g.length) = decide (n = n')) := Lib.hid (by rw [← hl1, ← hl2])
  clear hl1 hl2
  cases hf : isTab f with
  | false =>
    have HF := Lib.hid hf; clear hf
    go_enter Tryz.func93, Tryz.ntmps93
    go_wp2_with fail
    refine (l01Table_any _ _ _ _ _ (h1.alloc _) hm1).mono ?_
    rintro e w1 ⟨rfl, rfl⟩
    rw [HF.out]
    go_wp2
    go_ret
    exact ⟨ret_bool (by unfold isPm; rw [HF.out]; rfl), below_al (Below.refl _ _) _⟩
  | true =>
    have HF := Lib.hid hf; clear hf
    cases hg : isTab g with
    | false =>
      have HG := Lib.hid hg; clear hg
      go_enter Tryz.func93, Tryz.ntmps93
      go_wp2_with fail
      refine (l01Table_any _ _ _ _ _ (h1.alloc _) hm1).mono ?_
      rintro e w1 ⟨rfl, rfl⟩
      rw [HF.out]
      go_wp2_with fail
      refine (l01Table_any _ _ _ _ _ (h2.alloc _) hm2).mono ?_
      rintro e w1 ⟨rfl, rfl⟩
      rw [HG.out]
      go_wp2
      go_ret
      exact ⟨ret_bool (by unfold isPm; rw [HF.out, HG.out]; rfl), below_al (Below.refl _ _) _⟩
    | true =>
      have HG := Lib.hid hg; clear hg
      have HQ : Hid (isPm f g = decide ((n : Int) = (n' : Int))) := Lib.hid (by unfold isPm; rw [HF.out, HG.out, HL.out]; simp [Int.ofNat_inj])
      go_enter Tryz.func93, Tryz.ntmps93
      go_wp2_with fail
      refine (l01Table_any _ _ _ _ _ (h1.alloc _) hm1).mono ?_
      rintro e w1 ⟨rfl, rfl⟩
      rw [HF.out]
      go_wp2_with fail
      refine (l01Table_any _ _ _ _ _ (h2.alloc _) hm2).mono ?_
      rintro e w1 ⟨rfl, rfl⟩
      rw [HG.out]
      go_wp2
      go_ret
      exact ⟨ret_bool (by rw [HQ.out]; rfl), below_al (Below.refl _ _) _⟩
end Go.Proofs.YtpdgpgbgakinlaaGreat

namespace Go.Proofs.YtpdgpgbgakinlaaGreat
set_option maxRecDepth 100000
set_option linter.unusedVariables false
set_option linter.unusedSimpArgs false
open Go.RowKit
set_option maxHeartbeats 1000000 in
theorem l01Perm_any (a : Option Addr) (n c : Nat) (p : List Int) (w : World) (h1 : Row w a n p) (hm : n ≤ 9223372036854775807) :
    Calls Tryz.prog 111 #[.slice a n c] w fun e w' => e = .returned (.bool (rngB 1 12 n && permOk p)) ∧ w = w' := by
  have hl := h1.len
  cases hv : rngB 1 12 n with
  | false =>
    have HC := Lib.hid (fun w => l01In_b n 1 12 false hv w)
    clear hv hl
    go_enter Tryz.func111, Tryz.ntmps111
    go_wp2_with fail
    refine (HC.out _).mono ?_
    rintro e w2 ⟨rfl, rfl⟩
    go_wp2
    go_ret
    exact ⟨rfl, rfl⟩
  | true =>
    have HC := Lib.hid (fun w => l01In_b n 1 12 true hv w)
    have HQ : Hid (permOk p = allN n fun x : Nat => p.contains (x : Int)) := Lib.hid (by unfold permOk; rw [hl])
    have hn12 : 1 ≤ n ∧ n ≤ 12 := by unfold rngB at hv; simp at hv; omega
    clear hv hl
    go_enter Tryz.func111, Tryz.ntmps111
    go_wp2_with fail
    refine (HC.out _).mono ?_
    rintro e w2 ⟨rfl, rfl⟩
    go_wp2
    go_loop [4] (fun i => ∃ k : Nat, k ≤ n ∧ i = .int .i64 k ∧ Hid (allN k (fun x : Nat => p.contains (x : Int)) = true)) (fun i => n - (intOf i).toNat)
    case atStart => exact ⟨0, Nat.zero_le _, rfl, Lib.hid rfl⟩
    case round =>
      obtain ⟨k, hk, rfl, hI⟩ := hrel
      by_cases hlt : k < n
      · have hcd : decide ((k : Int) ∈ p) = p.contains (k : Int) := by rw [Bool.eq_iff_iff]; simp
        have HH := Lib.hid (l01Has_any a n c p (k : Int) w h1 (by omega))
        cases hc : p.contains (k : Int) with
        | true =>
          rw [hc] at hcd
          have HD := Lib.hid hcd; have HCC := Lib.hid hc
          clear hc hcd
          go_wp2_with fail
          refine HH.out.mono ?_
          rintro e w2 ⟨rfl, rfl⟩
          rw [HD.out]
          go_wp2
          go_round
          case rel => exact ⟨k + 1, by omega, by go_num, Lib.hid (allN_succ hI.out HCC.out)⟩
          case measure => simp [intOf]; omega
        | false =>
          rw [hc] at hcd
          have HD := Lib.hid hcd; have HCC := Lib.hid hc
          clear hc hcd
          go_wp2_with fail
          refine HH.out.mono ?_
          rintro e w2 ⟨rfl, rfl⟩
          rw [HD.out]
          go_wp2
          go_ret
          exact ⟨ret_bool (by rw [HQ.out, allN_no hlt HCC.out]; rfl), rfl⟩
      · obtain rfl : k = n := by omega
        go_wp2
        go_ret
        exact ⟨ret_bool ((congrArg (fun b => true && b) (HQ.out.trans hI.out)).symm), rfl⟩
set_option maxHeartbeats 4000000 in
theorem l03Fault_any (a : Option Addr) (n c : Nat) (t : List (List Int)) (w : World) (h1 : Tbl w a n t) (hn1 : 1 ≤ n) (hn : n ≤ 12) (hf : Sq n t) :
    Calls Tryz.prog 112 #[.slice a n c] w (FltN (rkOk n t) w) := by
  obtain ⟨bf, of, A, O, C, rfl, gf⟩ := h1.grid hf hn1
  clear h1
  go_enter Tryz.func112, Tryz.ntmps112
  go_wp2
  go_loopw [4] (fun i wr => ∃ k : Nat, k ≤ n ∧ i = .int .i64 k ∧ Hid (allN k (fun x => allN n fun y => allN n fun z => rkAt t x y z) = true) ∧ ∃ m, wr = w.drewN m) (fun i _ => n - (intOf i).toNat)
  case atStart => exact ⟨0, Nat.zero_le _, rfl, Lib.hid rfl, 0, rfl⟩
  case round =>
    obtain ⟨x, hx, rfl, hx1, m1, rfl⟩ := hrel
    by_cases hlt : x < n
    · go_wp2
      go_loopw [5] (fun i wr => ∃ k : Nat, k ≤ n ∧ i = .int .i64 k ∧ Hid (allN k (fun y => allN n fun z => rkAt t x y z) = true) ∧ ∃ m, wr = w.drewN m) (fun i _ => n - (intOf i).toNat)
      case atStart => exact ⟨0, Nat.zero_le _, rfl, Lib.hid rfl, m1, rfl⟩
      case round =>
        obtain ⟨y, hy, rfl, hy1, m2, rfl⟩ := hrel
        by_cases hlty : y < n
        · go_wp2
          go_loopw [6] (fun i wr => ∃ k : Nat, k ≤ n ∧ i = .int .i64 k ∧ Hid (allN k (fun z => rkAt t x y z) = true) ∧ ∃ m, wr = w.drewN m) (fun i _ => n - (intOf i).toNat)
          case atStart => exact ⟨0, Nat.zero_le _, rfl, Lib.hid rfl, m2, rfl⟩
          case round =>
            obtain ⟨z, hz, rfl, hz1, m3, rfl⟩ := hrel
            by_cases hltz : z < n
            · have l1 := hf.lt hlty hltz
              have l2 := hf.lt hlt hlty
              have l3 := hf.lt hlt hltz
              obtain ⟨r1, k1⟩ := gf.look hlty hltz
              obtain ⟨r2, k2⟩ := gf.look hlt l1
              have k3 := gf.cell _ _ hlt hlty
              have k4 := gf.cell _ _ hlt hltz
              obtain ⟨r5, k5⟩ := gf.look l2 l3
              have hE : rkAt t x y z = decide (tv t x (tv t y z) = tv t (tv t x y) (tv t x z)) := rfl
              generalize tv t y z = q1 at *
              generalize tv t x y = q2 at *
              generalize tv t x z = q3 at *
              generalize tv t x q1 = A1 at *
              generalize tv t q2 q3 = A2 at *
              have HE := Lib.hid hE
              clear hE gf hf
              by_cases p1 : A1 = A2
              · have u1 : ((A1 : Int) != (A2 : Int)) = false := by simp [p1]
                have HE2 : Hid (rkAt t x y z = true) := Lib.hid (by rw [HE.out]; simp [p1])
                clear p1
                go_wp2
                go_quiet (fail)
                go_wp2
                go_roundw
                case rel => exact ⟨z + 1, by omega, by go_num, Lib.hid (allN_succ hz1.out HE2.out), _, rfl⟩
                case measure => simp [intOf]; omega
              · have u1 : ((A1 : Int) != (A2 : Int)) = true := by simp; omega
                have HE2 : Hid (rkAt t x y z = false) := Lib.hid (by rw [HE.out]; simp [p1])
                clear p1
                go_wp2
                go_quiet (fail)
                go_wp2
                go_ret
                exact ⟨.inr ⟨allN_no hlt (allN_no hlty (allN_no hltz HE2.out)), _, _, rfl⟩, below_al (below_drewN (Below.refl _ _) _) _⟩
            · obtain rfl : z = n := by omega
              go_wp2
              go_roundw
              case rel => exact ⟨y + 1, by omega, by go_num, Lib.hid (allN_succ hy1.out hz1.out), _, rfl⟩
              case measure => simp [intOf]; omega
        · obtain rfl : y = n := by omega
          go_wp2
          go_roundw
          case rel => exact ⟨x + 1, by omega, by go_num, Lib.hid (allN_succ hx1.out hy1.out), _, rfl⟩
          case measure => simp [intOf]; omega
    · obtain rfl : x = n := by omega
      go_wp2
      go_ret
      exact ⟨.inl ⟨hx1.out, rfl⟩, below_drewN (Below.refl _ _) _⟩
set_option maxHeartbeats 2000000 in
theorem l03Is_any (a : Option Addr) (n c : Nat) (t : List (List Int)) (w : World) (h1 : Tbl w a n t) (hm : n ≤ 9223372036854775807) :
    Calls Tryz.prog 63 #[rAgg a n c] w fun e w' => e = .returned (.bool (isRk t)) ∧ Below w.heap.size w w' := by
  have hA := Loc.new w rfl #[.slice a n c] 45
  cases hf : isTab t with
  | false =>
    have HQ : Hid (isRk t = false) := Lib.hid (isRk_no hf)
    have HF := Lib.hid hf; clear hf
    go_enter Tryz.func63, Tryz.ntmps63
    go_wp2_with fail
    refine (l01Table_any _ _ _ _ _ (h1.alloc _) hm).mono ?_
    rintro e w1 ⟨rfl, rfl⟩
    rw [HF.out]
    go_wp2
    go_ret
    exact ⟨ret_bool HQ.out.symm, below_al (Below.refl _ _) _⟩
  | true =>
    obtain ⟨hn1, hn12, sf⟩ := isTab_sq hf
    have hl := h1.len
    rw [← hl] at hn1 hn12 sf
    have HQ : Hid (isRk t = (t.all permOk && rkOk n t)) := Lib.hid (by unfold isRk; rw [hf, ← hl]; rfl)
    have HF := Lib.hid hf; have HSF := Lib.hid sf; have HL := Lib.hid hl
    have hr12 : rngB 1 12 (n : Int) = true := by unfold rngB; simp; omega
    have HR := Lib.hid hr12
    clear hf sf hl hr12
    have hB := below_al (Below.refl w.heap.size w) (.cells #[.slice a n c] 45)
    have t0 := h1.alloc (.cells #[.slice a n c] 45)
    have lA := hA.one
    go_enter Tryz.func63, Tryz.ntmps63
    go_wp2_with fail
    refine (l01Table_any _ _ _ _ _ (h1.alloc _) hm).mono ?_
    rintro e w1 ⟨rfl, rfl⟩
    rw [HF.out]
    go_wp2
    generalize w.alloc (.cells #[.slice a n c] 45) = w0 at *
    go_loop [3] (fun i => ∃ k : Nat, k ≤ n ∧ i = .int .i64 k ∧ Hid ((t.take k).all permOk = true)) (fun i => n - (intOf i).toNat)
    case atStart => exact ⟨0, Nat.zero_le _, rfl, Lib.hid (by simp)⟩
    case round =>
      obtain ⟨k, hk, rfl, hI⟩ := hrel
      by_cases hlt : k < n
      · obtain ⟨b, off, ai, ni, ci, rfl, g1, hri, hni⟩ := t0.at k hlt
        have hx : k < t.length := by have := HL.out; omega
        have hrl := HSF.out.row hlt
        have hll := hri.len
        obtain rfl : ni = n := by omega
        rw [Tbl.getD hx] at hri
        have HPP := Lib.hid (fun (w : World) (hr : Row w ai ni t[k]) => l01Perm_any ai ni ci t[k] w hr (by omega))
        cases hp : permOk t[k] with
        | true =>
          have HP := Lib.hid hp
          clear hp hrl hll t0
          go_wp2_with fail
          refine (HPP.out _ hri).mono ?_
          rintro e w2 ⟨rfl, rfl⟩
          rw [HR.out, HP.out]
          go_wp2
          go_round
          case rel => exact ⟨k + 1, by omega, by go_num, Lib.hid (all_get_succ hx hI.out HP.out)⟩
          case measure => simp [intOf]; omega
        | false =>
          have HP := Lib.hid hp
          clear hp hrl hll t0
          go_wp2_with fail
          refine (HPP.out _ hri).mono ?_
          rintro e w2 ⟨rfl, rfl⟩
          rw [HR.out, HP.out]
          go_wp2
          go_ret
          exact ⟨ret_bool (by rw [HQ.out, all_no hx HP.out]; rfl), hB⟩
      · obtain rfl : k = n := by omega
        have ha := hI.out
        rw [List.take_of_length_le (by have := HL.out; omega)] at ha
        have HA := Lib.hid ha; clear ha
        go_wp2_with fail
        refine (l03Fault_any _ _ _ t _ t0 hn1 hn12 HSF.out).mono ?_
        rintro e w3 ⟨he, hb3⟩
        rcases he with ⟨hc, rfl⟩ | ⟨hc, b, k', rfl⟩
        · have HD := Lib.hid hc; clear hc
          go_wp2
          go_ret
          exact ⟨ret_bool (by rw [HQ.out, HA.out, HD.out]; rfl), below_th hB hb3⟩
        · have HD := Lib.hid hc; clear hc
          go_wp2
          go_ret
          exact ⟨ret_bool (by rw [HQ.out, HA.out, HD.out]; rfl), below_th hB hb3⟩
end Go.Proofs.YtpdgpgbgakinlaaGreat

namespace Go.Proofs.YtpdgpgbgakinlaaGreat
set_option maxRecDepth 100000
set_option linter.unusedVariables false
set_option linter.unusedSimpArgs false
open Go.RowKit
structure Sol (w : World) (a : Option Addr) (n : Nat) (xss : List (List Int)) (a' : Option Addr) (n' : Nat) (yss : List (List Int)) : Prop where
  f : Tbl w a n xss
  s : Tbl w a' n' yss
def SolS (a : Option Addr) (n : Nat) (vs : List SV) (a' : Option Addr) (n' : Nat) (vs' : List SV) (g : Nat) : Prop := TblS a n vs g ∨ TblS a' n' vs' g
structure OwnS (w : World) (lo : Nat) (a : Option Addr) (n c : Nat) (vs : List SV) (xss : List (List Int)) (a' : Option Addr) (n' c' : Nat) (vs' : List SV) (yss : List (List Int)) : Prop where
  f : OwnT w lo a n c vs xss
  s : OwnT w lo a' n' c' vs' yss
  ap : ∀ g, TblS a n vs g → ¬ TblS a' n' vs' g
section
variable {w w' : World} {lo : Nat} {a a' a1 a1' a2 a2' : Option Addr} {n n' c c' n1 n1' n2 n2' c1 c1' c2 c2' : Nat} {vs vs' : List SV} {xss yss : List (List Int)}
theorem Sol.below (h : Sol w a n xss a' n' yss) (hb : Below w.heap.size w w') : Sol w' a n xss a' n' yss := ⟨h.f.below hb, h.s.below hb⟩
theorem Sol.alloc (h : Sol w a n xss a' n' yss) (o : Obj) : Sol (w.alloc o) a n xss a' n' yss := ⟨h.f.alloc o, h.s.alloc o⟩
theorem Sol.drewN (h : Sol w a n xss a' n' yss) (k : Nat) : Sol (w.drewN k) a n xss a' n' yss := ⟨h.f.drewN k, h.s.drewN k⟩
theorem OwnS.sol (h : OwnS w lo a n c vs xss a' n' c' vs' yss) : Sol w a n xss a' n' yss := ⟨h.f.tbl, h.s.tbl⟩
theorem OwnS.below (h : OwnS w lo a n c vs xss a' n' c' vs' yss) (hb : Below w.heap.size w w') : OwnS w' lo a n c vs xss a' n' c' vs' yss := ⟨h.f.below hb, h.s.below hb, h.ap⟩
theorem OwnS.alloc (h : OwnS w lo a n c vs xss a' n' c' vs' yss) (o : Obj) : OwnS (w.alloc o) lo a n c vs xss a' n' c' vs' yss := ⟨h.f.alloc o, h.s.alloc o, h.ap⟩
theorem OwnS.drewN (h : OwnS w lo a n c vs xss a' n' c' vs' yss) (k : Nat) : OwnS (w.drewN k) lo a n c vs xss a' n' c' vs' yss := ⟨h.f.drewN k, h.s.drewN k, h.ap⟩
theorem OwnS.mono {lo' : Nat} (h : OwnS w lo a n c vs xss a' n' c' vs' yss) (hl : lo' ≤ lo) : OwnS w lo' a n c vs xss a' n' c' vs' yss := ⟨h.f.mono hl, h.s.mono hl, h.ap⟩
theorem OwnS.cap (h : OwnS w lo a n c vs xss a' n' c' vs' yss) : (n ≤ c ∧ c ≤ 9223372036854775807) ∧ n' ≤ c' ∧ c' ≤ 9223372036854775807 := ⟨h.f.cap, h.s.cap⟩
theorem OwnS.uLo (h : OwnS w lo a n c vs xss a' n' c' vs' yss) : ∀ g, SolS a n vs a' n' vs' g → lo ≤ g := fun g hg => hg.elim (h.f.uLo g) (h.s.uLo g)
theorem OwnS.uHi (h : OwnS w lo a n c vs xss a' n' c' vs' yss) : ∀ g, SolS a n vs a' n' vs' g → g < w.heap.size := fun g hg => hg.elim (h.f.uHi g) (h.s.uHi g)
theorem OwnS.uKeep (h : OwnS w lo a n c vs xss a' n' c' vs' yss) {S : Nat → Prop} (hm : Marked S w w') (hS : ∀ g, SolS a n vs a' n' vs' g → ¬ S g) : OwnS w' lo a n c vs xss a' n' c' vs' yss :=
  ⟨h.f.uKeep hm fun g hg => hS g (.inl hg), h.s.uKeep hm fun g hg => hS g (.inr hg), h.ap⟩
end
end Go.Proofs.YtpdgpgbgakinlaaGreat

namespace Go.Proofs.YtpdgpgbgakinlaaGreat
set_option maxRecDepth 100000
set_option linter.unusedVariables false
set_option linter.unusedSimpArgs false
open Go.RowKit
set_option maxHeartbeats 1000000 in
theorem l03Quandle_any (a : Option Addr) (n c : Nat) (t : List (List Int)) (w : World) (h : Tbl w a n t) (hf : Sq n t) (hn1 : 1 ≤ n) (hn : n ≤ 12) :
    Calls Tryz.prog 117 #[rAgg a n c] w fun e w' => e = .returned (.bool (qndOk n t)) ∧ Below w.heap.size w w' := by
  have hA := Loc.new w rfl #[.slice a n c] 45
  have hB := below_al (Below.refl w.heap.size w) (.cells #[.slice a n c] 45)
  obtain ⟨bf, of, A, O, C, rfl, gf⟩ := h.grid hf (by omega)
  clear h hf
  go_enter Tryz.func117, Tryz.ntmps117
  go_wp2
  generalize w.alloc (.cells #[.slice (some ⟨bf, of, none⟩) n c] 45) = w0 at *
  have lA := hA.one
  go_loop [3] (fun i => ∃ k : Nat, k ≤ n ∧ i = .int .i64 k ∧ Hid (∀ j, j < k → tv t j j = j)) (fun i => n - (intOf i).toNat)
  case atStart => exact ⟨0, Nat.zero_le _, rfl, Lib.hid fun j hj => absurd hj (by omega)⟩
  case round =>
    obtain ⟨k, hk, rfl, hI⟩ := hrel
    by_cases hlt : k < n
    · obtain ⟨r1, k1⟩ := (gf.below hB).look hlt hlt
      have HD : Hid (∀ V, tv t k k = V → (V ≠ k → qndOk n t = false)) := Lib.hid fun V hV h0 => allN_no hlt (decide_eq_false (by rw [hV]; exact h0))
      generalize hV : tv t k k = V at *
      have HV := Lib.hid hV
      clear hV
      by_cases h0 : V = k
      · subst h0
        have hb : (((V : Nat) : Int) != ((V : Nat) : Int)) = false := by simp
        go_wp2
        go_round
        case rel =>
          refine ⟨V + 1, by omega, by go_num, Lib.hid fun j hj => ?_⟩
          by_cases e : j = V
          · subst e; exact HV.out
          · exact hI.out j (by omega)
        case measure => simp [intOf]; omega
      · have hb : (((V : Nat) : Int) != ((k : Nat) : Int)) = true := by simp; omega
        have HDF := Lib.hid (HD.out V rfl h0)
        go_wp2
        go_ret
        exact ⟨ret_bool (by rw [HDF.out]), hB⟩
    · obtain rfl : k = n := by omega
      have HDT : Hid (qndOk k t = true) := Lib.hid (allN_mk fun x hx => decide_eq_true (hI.out x hx))
      go_wp2
      go_ret
      exact ⟨ret_bool (by rw [HDT.out]), hB⟩
end Go.Proofs.YtpdgpgbgakinlaaGreat

namespace Go.Proofs.YtpdgpgbgakinlaaGreat
set_option maxRecDepth 100000
set_option linter.unusedVariables false
set_option linter.unusedSimpArgs false
open Go.RowKit
def GrTT (E : Nat → Prop) (w : World) (lo : Nat) (a : Option Addr) (n : Nat) (us : List TV) (ts : List (List (List Int))) (e : Ending) (w' : World) : Prop :=
  ∃ a' n' c' us', e = .returned (.slice a' n' c') ∧ OwnTT w' lo a' n' c' us' ts ∧ Marked (TTS a n us) w w' ∧ ∀ g, TTS a' n' us' g → TTS a n us g ∨ E g ∨ w.heap.size ≤ g
theorem GrTT.one {w w' : World} {E : Nat → Prop} {lo : Nat} {a : Option Addr} {n c : Nat} {us : List TV} {ts : List (List (List Int))} {g c' : Nat} {u : TV} {t : List (List Int)} (h : OwnTT w lo a n c us ts) (hg : w.grownBy w' (Value.slice a n c).ownBlock) (hat : (Value.slice a n c).ownBlock = some g ∨ w.heap.size ≤ g)
    (hO : OwnTT w' lo (some ⟨g, 0, none⟩) (n + 1) c' (us ++ [u]) (ts ++ [t])) (hE : ∀ q, TvS u q → E q) : GrTT E w lo a n us (ts ++ [t]) (.returned (.slice (some ⟨g, 0, none⟩) (n + 1) c')) w' := by
  refine ⟨_, _, _, _, rfl, hO, Marked.grownTT h hg, fun q hq => ?_⟩
  rcases TTS.snoc (a := a) h.ulen hq with rfl | h' | h'
  · rcases hat with h2 | h2
    · exact .inl (.inl (h.ownBlk h2))
    · exact .inr (.inr h2)
  · exact .inr (.inl (hE q h'))
  · exact .inl h'
theorem TTS.nil {g : Nat} : ¬ TTS none 0 [] g := by
  rintro (h | ⟨i, hi, _⟩)
  · cases h
  · omega
end Go.Proofs.YtpdgpgbgakinlaaGreat

namespace Go.Proofs.YtpdgpgbgakinlaaGreat
set_option linter.unusedVariables false
set_option linter.unusedSimpArgs false
def isPb (n : Nat) (p : List Int) : Bool := decide (p.length = n) && (List.range n).all fun i => decide (0 ≤ p.getD i 0) && decide ((p.getD i 0).toNat < n) && decide (((backF p).getD i 0).toNat < n) && decide ((p.getD ((backF p).getD i 0).toNat 0).toNat = i) && decide (((backF p).getD (p.getD i 0).toNat 0).toNat = i)
theorem isPb_ok {n : Nat} {p : List Int} (h : isPb n p = true) : IsP n p := by
  simp only [isPb, Bool.and_eq_true, decide_eq_true_eq, List.all_eq_true, List.mem_range] at h
  refine ⟨fun i => (p.getD i 0).toNat, fun i => ((backF p).getD i 0).toNat, h.1, fun i hi => ?_, fun i hi => ?_⟩
  · have := h.2 i hi
    exact ⟨this.1.1.1.2, this.1.1.2, this.1.2, this.2⟩
  · have := h.2 i hi
    have h0 := this.1.1.1.1
    show p.getD i 0 = (((p.getD i 0).toNat : Nat) : Int)
    omega
end Go.Proofs.YtpdgpgbgakinlaaGreat

namespace Go.Proofs.YtpdgpgbgakinlaaGreat
set_option maxRecDepth 100000
set_option linter.unusedVariables false
set_option linter.unusedSimpArgs false
open Go.RowKit
attribute [local go_sem] Oper.semAt_some
theorem Touch.grownBy {w w' : World} {b : Nat} (h : Touch (fun q => q = b) w w') : w.grownBy w' (some b) :=
  ⟨h.os, h.tape, h.output, by rw [h.size]; exact Nat.le_refl _, fun k hk hne => h.block k (fun e => hne (by rw [e]))⟩
end Go.Proofs.YtpdgpgbgakinlaaGreat

namespace Go.Proofs.YtpdgpgbgakinlaaGreat
set_option maxRecDepth 100000
set_option linter.unusedVariables false
set_option linter.unusedSimpArgs false
open Go.RowKit
set_option maxHeartbeats 400000 in
theorem clone_any (a : Option Addr) (n c : Nat) (xs : List Int) (w : World) (h1 : Row w a n xs) (hm : n ≤ 1000000000000) :
    Calls Tryz.prog 66 #[.slice a n c] w fun e w' => ∃ a' c', e = .returned (.slice a' n c') ∧ Own w' w.heap.size a' n c' xs ∧ Below w.heap.size w w' := by
  have hnil := Lib.run_eql_slice_nil (P := Tryz.prog) w 27 2 a n c 0 0 und_ints
  cases a with
  | none =>
    have hn : n = 0 := by
      rcases Nat.eq_zero_or_pos n with h | h
      · exact h
      · obtain ⟨b, off, h2, _⟩ := h1.at 0 h; cases h2
    subst hn
    have hx : xs = [] := List.eq_nil_of_length_eq_zero h1.len.symm
    subst hx
    go_enter Tryz.func66, Tryz.ntmps66
    go_wp2
    go_ret
    exact ⟨none, 0, rfl, Own.nil _ _, Below.refl _ _⟩
  | some p =>
    have hr := h1.alloc (.cells #[] 2)
    go_enter Tryz.func66, Tryz.ntmps66
    go_wp2_with (at_builtin; refine appL rfl rfl (Own.fresh w rfl) rfl hr rfl (by omega) (by simp) ?_; intro ad' c' w' hO hg hb; rw [Nat.zero_add] at hO ⊢)
    go_ret
    exact ⟨ad', c', rfl, by simpa using hO, ((Below.refl _ _).alloc (Nat.le_refl _) _).trans hb⟩
end Go.Proofs.YtpdgpgbgakinlaaGreat

namespace Go.Proofs.YtpdgpgbgakinlaaGreat
set_option maxRecDepth 100000
set_option linter.unusedVariables false
set_option linter.unusedSimpArgs false
open Go.RowKit
set_option maxHeartbeats 1000000 in
theorem cloneTable_any (a : Option Addr) (n c : Nat) (xss : List (List Int)) (w : World) (h1 : Tbl w a n xss) (hm : n ≤ 1000000) (hx1 : ∀ i, i < n → (xss.getD i []).length ≤ 1000000) :
    Calls Tryz.prog 136 #[.slice a n c] w fun e w' => ∃ a' c' vs, e = .returned (.slice a' n c') ∧ OwnT w' w.heap.size a' n c' vs xss ∧ Below w.heap.size w w' := by
  have hl := h1.len
  have HL := Lib.hid hl; clear hl
  have HX := Lib.hid hx1; clear hx1
  go_enter Tryz.func136, Tryz.ntmps136
  go_wp2_with (at_make; refine makeT rfl rfl rfl rfl (by omega) ?_; intro w1 ho hs hb)
  go_loopw [11] (fun i wr => ∃ (k : Nat) (vs : List SV), k ≤ n ∧ i = .int .i64 k ∧ OwnT wr w.heap.size (some ⟨w.heap.size, 0, none⟩) n n vs (xss.take k ++ List.replicate (n - k) []) ∧ Below w.heap.size w wr) (fun i _ => n - (intOf i).toNat)
  case atStart => exact ⟨0, _, Nat.zero_le _, rfl, by simpa using ho, hb⟩
  case round =>
    clear ho hb
    obtain ⟨k, vs, hk, rfl, ho, hb⟩ := hrel
    by_cases hlt : k < n
    · have hr := h1.below hb
      obtain ⟨b, off, ai, ni, ci, rfl, g1, hri, hni⟩ := hr.at k hlt
      have hx : k < xss.length := by have := HL.out; omega
      have hle : ni ≤ 1000000 := by have := HX.out k hlt; have := hri.len; omega
      rw [Tbl.getD hx] at hri
      obtain ⟨g, hg, hgl, hc, hf⟩ := ho.cells (by omega)
      cases hg
      clear h1 hr hc
      go_wp2_with fail
      refine (clone_any _ _ _ _ _ hri (by omega)).mono ?_
      rintro e w2 ⟨a2, c2, rfl, ho2, hb2⟩
      have hot := ho.below hb2
      obtain ⟨g', hg', hgl', hc', hf'⟩ := hot.cells (by omega)
      cases hg'
      have hc1 := hc' k hlt
      have hf1 := hf' k
      clear hc' hf' hf
      go_wp2
      go_roundw
      case rel =>
        have hlo : w.heap.size ≤ wr.heap.size := hb.size
        refine ⟨k + 1, vs.set k (a2, ni, c2), by omega, by go_num, ?_, ?_⟩
        · have hp := hot.put k hlt (v := (a2, ni, c2)) (ho2.mono hlo) (fun e => by have := ho2.lo _ e; omega) (fun j hj _ g1 h1 h2 => by have h3 := ho2.lo _ h1; have h4 := (ho.row j hj).hi _ h2; omega)
          rw [copyT_step xss n k HL.out hx] at hp
          exact hp
        · exact (hb.trans (hb2.mono hlo)).setCell (Nat.le_refl _) _
      case measure => simp [intOf]; omega
    · obtain rfl : k = n := by omega
      go_wp2
      go_ret
      have e1 : xss.take k ++ List.replicate (k - k) [] = xss := by
        rw [List.take_of_length_le (by have := HL.out; omega), Nat.sub_self, List.replicate_zero, List.append_nil]
      rw [e1] at ho
      exact ⟨_, _, _, rfl, ho, hb⟩
end Go.Proofs.YtpdgpgbgakinlaaGreat

namespace Go.Proofs.YtpdgpgbgakinlaaGreat
set_option maxRecDepth 100000
set_option linter.unusedVariables false
set_option linter.unusedSimpArgs false
open Go.RowKit
def RowsOf (P : Nat) (pvs : List SV) (perms : List (List Int)) (vs : List SV) (rows : List (List Int)) : Prop := vs.length = rows.length ∧ ∀ i, i < rows.length → ∃ j, j < P ∧ vs.getD i svO = pvs.getD j svO ∧ rows.getD i [] = perms.getD j []
theorem RowsOf.nil (P : Nat) (pvs : List SV) (perms : List (List Int)) : RowsOf P pvs perms [] [] := ⟨rfl, fun i h => absurd h (by simp)⟩
theorem RowsOf.snoc {P : Nat} {pvs : List SV} {perms : List (List Int)} {vs : List SV} {rows : List (List Int)} (h : RowsOf P pvs perms vs rows) {j : Nat} (hj : j < P) : RowsOf P pvs perms (vs ++ [pvs.getD j svO]) (rows ++ [perms.getD j []]) := by
  refine ⟨by simp [h.1], fun i hi => ?_⟩
  simp only [List.length_append, List.length_cons, List.length_nil] at hi
  by_cases e : i < rows.length
  · obtain ⟨j', h1, h2, h3⟩ := h.2 i e
    exact ⟨j', h1, by rw [← h2]; simp [List.getD_eq_getElem?_getD, List.getElem?_append_left (show i < vs.length by have := h.1; omega)], by rw [← h3]; simp [List.getD_eq_getElem?_getD, List.getElem?_append_left e]⟩
  · obtain rfl : i = rows.length := by omega
    refine ⟨j, hj, ?_, ?_⟩
    · rw [← h.1]; simp [List.getD_eq_getElem?_getD]
    · simp [List.getD_eq_getElem?_getD]
theorem RowsOf.tbl {w : World} {lo : Nat} {pa a : Option Addr} {P pc n : Nat} {pvs vs : List SV} {perms rows : List (List Int)} (h : RowsOf P pvs perms vs rows) (hp : OwnT w lo pa P pc pvs perms) (hh : HdR w a n vs) : Tbl w a n rows :=
  hh.tbl (by have := hh.1; have := h.1; omega) fun i hi => by
    obtain ⟨j, h1, h2, h3⟩ := h.2 i (by have := hh.1; have := h.1; omega)
    rw [h2, h3]
    exact ⟨(hp.row j h1).row, by have := (hp.row j h1).cap; omega⟩
end Go.Proofs.YtpdgpgbgakinlaaGreat

namespace Go.Proofs.YtpdgpgbgakinlaaGreat
set_option maxRecDepth 100000
set_option linter.unusedVariables false
set_option linter.unusedSimpArgs false
open Go.RowKit
theorem RwsOk.at {n : Nat} {rows : List (List Int)} (h : RwsOk n rows) {x nx : Nat} (hx : x < n) {w : World} {a : Option Addr} (hr : Row w a nx (rows.getD x [])) : (nx = 0 ∧ rows.getD x [] = []) ∨ (nx = n ∧ IsP n (rows.getD x [])) := by
  rcases h.2 x hx with e | e
  · exact .inl ⟨by have := hr.len; rw [e] at this; simpa using this, e⟩
  · exact .inr ⟨by have := hr.len; rw [e.len] at this; exact this, e⟩
end Go.Proofs.YtpdgpgbgakinlaaGreat

namespace Go.Proofs.YtpdgpgbgakinlaaGreat
set_option maxRecDepth 100000
set_option linter.unusedVariables false
set_option linter.unusedSimpArgs false
open Go.RowKit
def RwsP (n : Nat) (t : List (List Int)) : Prop := t.length = n ∧ ∀ i, i < n → IsP n (t.getD i [])
theorem RwsP.sq {n : Nat} {t : List (List Int)} (h : RwsP n t) : Sq n t := by
  refine ⟨h.1, fun x hx => ⟨(h.2 x hx).len, fun y hy => ?_⟩⟩
  obtain ⟨z, hz, hzn⟩ := (h.2 x hx).at hy
  have : tv t x y = z := by unfold tv; rw [hz, Int.toNat_natCast]
  rw [this]; exact ⟨hzn, hz⟩
end Go.Proofs.YtpdgpgbgakinlaaGreat
