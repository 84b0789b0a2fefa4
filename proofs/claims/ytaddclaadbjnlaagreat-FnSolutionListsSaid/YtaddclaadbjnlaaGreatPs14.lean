/-
  Walks and plain laws of this seat, some texts in one.
  No condition but bounds on lengths.
-/
import Derived.Test.YtaddclaadbjnlaaGreatPs4
import Derived.Test.YtaddclaadbjnlaaGreatPs13
import Derived.Test.YtaddclaadbjnlaaGreatPs5
import Derived.Test.YtaddclaadbjnlaaGreatPs7
import Derived.Test.YtaddclaadbjnlaaGreatPs12
import Derived.Test.YtaddclaadbjnlaaGreatPs3
import Derived.Test.YtaddclaadbjnlaaGreatPs11
namespace Go.Proofs.YtaddclaadbjnlaaGreat
set_option maxRecDepth 100000
set_option linter.unusedVariables false
set_option linter.unusedSimpArgs false
open Go.RowKit
theorem rowOk_len {n m : Int} {xs : List Int} (h : (xs.length : Int) ≠ n) : rowOk n m xs = false := by unfold rowOk; simp [h]
theorem rowOk_mk {n m : Int} {xs : List Int} (h : (xs.length : Int) = n) : rowOk n m xs = xs.all (rngB 0 (m - 1)) := by unfold rowOk; simp [h]
set_option maxHeartbeats 2000000 in
theorem l01Table_any (a : Option Addr) (n c : Nat) (t : List (List Int)) (w : World) (h1 : Tbl w a n t) (hm : n ≤ 9223372036854775807) :
    Calls Tryz.prog 105 #[.slice a n c] w fun e w' => e = .returned (.bool (isTab t)) ∧ w = w' := by
  have hl := h1.len
  cases hp : rngB 1 12 n with
  | false =>
    have hq : isTab t = false := by unfold isTab; rw [← hl, hp]; rfl
    have HQ := Lib.hid hq
    have HC := Lib.hid (fun w => l01In_b n 1 12 false hp w); clear hp hl hq
    go_enter Tryz.func105, Tryz.ntmps105
    go_wp2_with fail
    refine (HC.out _).mono ?_
    rintro e w' ⟨rfl, rfl⟩
    go_wp2
    go_ret
    exact ⟨ret_bool HQ.out.symm, rfl⟩
  | true =>
    have hn12 : 1 ≤ n ∧ n ≤ 12 := by unfold rngB at hp; simp at hp; omega
    obtain ⟨hn1, hn12⟩ := hn12
    have HC := Lib.hid (fun w => l01In_b n 1 12 true hp w)
    have hq : isTab t = t.all (rowOk n n) := by unfold isTab; rw [← hl, hp]; rfl
    have HQ := Lib.hid hq; have HL := Lib.hid hl; clear hq hl hp
    go_enter Tryz.func105, Tryz.ntmps105
    go_wp2_with fail
    refine (HC.out _).mono ?_
    rintro e w' ⟨rfl, rfl⟩
    go_wp2
    go_loop [4] (fun i => ∃ k : Nat, k ≤ n ∧ i = .int .i64 k ∧ Hid ((t.take k).all (rowOk n n) = true)) (fun i => n - (intOf i).toNat)
    case atStart => exact ⟨0, Nat.zero_le _, rfl, Lib.hid (by simp)⟩
    case round =>
      obtain ⟨k, hk, rfl, hall⟩ := hrel
      by_cases hlt : k < n
      · obtain ⟨b, off, ai, ni, ci, rfl, g1, hri, hni⟩ := h1.at k hlt
        have hx : k < t.length := by have := HL.out; omega
        rw [Tbl.getD hx] at hri
        have hll := hri.len
        by_cases hnn : ni = n
        · subst hnn
          have b1 : ((ni : Int) != (ni : Int)) = false := by simp
          have HR : Hid (rowOk ni ni t[k] = t[k].all (rngB 0 ((ni : Int) - 1))) := Lib.hid (rowOk_mk (by omega))
          have HLL := Lib.hid hll; clear hll
          go_wp2
          go_loop [5] (fun i => ∃ j : Nat, j ≤ ni ∧ i = .int .i64 j ∧ Hid ((t[k].take j).all (rngB 0 ((ni : Int) - 1)) = true)) (fun i => ni - (intOf i).toNat)
          case atStart => exact ⟨0, Nat.zero_le _, rfl, Lib.hid (by simp)⟩
          case round =>
            obtain ⟨j, hj, rfl, hin⟩ := hrel
            by_cases hjt : j < ni
            · obtain ⟨b2, o2, rfl, g2⟩ := hri.at j hjt
              have hy : j < t[k].length := by have := HLL.out; omega
              have e : t[k].getD j 0 = t[k][j] := by simp [List.getD_eq_getElem?_getD, List.getElem?_eq_getElem hy]
              rw [e] at g2
              clear h1 hri e
              cases hv : rngB 0 ((ni : Int) - 1) t[k][j] with
              | true =>
                have HD := Lib.hid (fun w => l01In_b t[k][j] 0 ((ni : Int) - 1) true hv w)
                have HV := Lib.hid hv; clear hv
                generalize t[k][j] = V at g2 HD
                go_wp2_with fail
                refine (HD.out _).mono ?_
                rintro e w' ⟨rfl, rfl⟩
                go_wp2
                go_round
                case rel => exact ⟨j + 1, by omega, by go_num, Lib.hid (all_get_succ hy hin.out HV.out)⟩
                case measure => simp [intOf]; omega
              | false =>
                have HD := Lib.hid (fun w => l01In_b t[k][j] 0 ((ni : Int) - 1) false hv w)
                have HV := Lib.hid hv; clear hv
                generalize t[k][j] = V at g2 HD
                go_wp2_with fail
                refine (HD.out _).mono ?_
                rintro e w' ⟨rfl, rfl⟩
                go_wp2
                go_ret
                exact ⟨ret_bool (by rw [HQ.out]; exact (all_no hx (by rw [HR.out]; exact all_no hy HV.out)).symm), rfl⟩
            · obtain rfl : j = ni := by omega
              have ha := hin.out
              rw [List.take_of_length_le (by have := HLL.out; omega)] at ha
              have HA := Lib.hid ha; clear ha
              go_wp2
              go_round
              case rel => exact ⟨k + 1, by omega, by go_num, Lib.hid (all_get_succ hx hall.out (by rw [HR.out]; exact HA.out))⟩
              case measure => simp [intOf]; omega
        · have b1 : ((ni : Int) != (n : Int)) = true := by simp; omega
          have HN : Hid (rowOk n n t[k] = false) := Lib.hid (rowOk_len (by omega))
          clear hll hnn
          go_wp2
          go_ret
          exact ⟨ret_bool (by rw [HQ.out]; exact (all_no hx HN.out).symm), rfl⟩
      · obtain rfl : k = n := by omega
        have ha := hall.out
        rw [List.take_of_length_le (by have := HL.out; omega)] at ha
        have HA := Lib.hid ha; clear ha
        go_wp2
        go_ret
        exact ⟨ret_bool (by rw [HQ.out]; exact HA.out.symm), rfl⟩
set_option maxHeartbeats 1000000 in
theorem l02Map_any (a : Option Addr) (n c : Nat) (a' : Option Addr) (n' c' : Nat) (f g : List (List Int)) (w : World) (h1 : Tbl w a n f) (h2 : Tbl w a' n' g) (hm1 : n ≤ 9223372036854775807) (hm2 : n' ≤ 9223372036854775807) :
    Calls Tryz.prog 119 #[sAgg a n c a' n' c'] w fun e w' => e = .returned (.bool (isPm f g)) ∧ Below w.heap.size w w' := by
  have hl1 := h1.len
  have hl2 := h2.len
  have HL : Hid (decide (f.length = g.length) = decide (n = n')) := Lib.hid (by rw [← hl1, ← hl2])
  clear hl1 hl2
  cases hf : isTab f with
  | false =>
    have HF := Lib.hid hf; clear hf
    go_enter Tryz.func119, Tryz.ntmps119
    go_wp2_with fail
    refine (l01Table_any _ _ _ _ _ (h1.alloc _) hm1).mono ?_
    rintro e w1 ⟨rfl, rfl⟩
    rw [HF.out]
    go_wp2
    go_ret
    exact ⟨ret_bool (by unfold isPm; rw [HF.out]; rfl), below_al (Below.refl _ _) _⟩
  | true =>
    have HF := Lib.hid hf; clear hf
    cases hg : isTab g with
    | false =>
      have HG := Lib.hid hg; clear hg
      go_enter Tryz.func119, Tryz.ntmps119
      go_wp2_with fail
      refine (l01Table_any _ _ _ _ _ (h1.alloc _) hm1).mono ?_
      rintro e w1 ⟨rfl, rfl⟩
      rw [HF.out]
      go_wp2_with fail
      refine (l01Table_any _ _ _ _ _ (h2.alloc _) hm2).mono ?_
      rintro e w1 ⟨rfl, rfl⟩
      rw [HG.out]
      go_wp2
      go_ret
      exact ⟨ret_bool (by unfold isPm; rw [HF.out, HG.out]; rfl), below_al (Below.refl _ _) _⟩
    | true =>
      have HG := Lib.hid hg; clear hg
      have HQ : Hid (isPm f g = decide ((n : Int) = (n' : Int))) := Lib.hid (by unfold isPm; rw [HF.out, HG.out, HL.out]; simp [Int.ofNat_inj])
      go_enter Tryz.func119, Tryz.ntmps119
      go_wp2_with fail
      refine (l01Table_any _ _ _ _ _ (h1.alloc _) hm1).mono ?_
      rintro e w1 ⟨rfl, rfl⟩
      rw [HF.out]
      go_wp2_with fail
      refine (l01Table_any _ _ _ _ _ (h2.alloc _) hm2).mono ?_
      rintro e w1 ⟨rfl, rfl⟩
      rw [HG.out]
      go_wp2
      go_ret
      exact ⟨ret_bool (by rw [HQ.out]; rfl), below_al (Below.refl _ _) _⟩
set_option maxHeartbeats 1000000 in
theorem l01Perm_any (a : Option Addr) (n c : Nat) (p : List Int) (w : World) (h1 : Row w a n p) (hm : n ≤ 9223372036854775807) :
    Calls Tryz.prog 106 #[.slice a n c] w fun e w' => e = .returned (.bool (rngB 1 12 n && permOk p)) ∧ w = w' := by
  have hl := h1.len
  cases hv : rngB 1 12 n with
  | false =>
    have HC := Lib.hid (fun w => l01In_b n 1 12 false hv w)
    clear hv hl
    go_enter Tryz.func106, Tryz.ntmps106
    go_wp2_with fail
    refine (HC.out _).mono ?_
    rintro e w2 ⟨rfl, rfl⟩
    go_wp2
    go_ret
    exact ⟨rfl, rfl⟩
  | true =>
    have HC := Lib.hid (fun w => l01In_b n 1 12 true hv w)
    have HQ : Hid (permOk p = allN n fun x : Nat => p.contains (x : Int)) := Lib.hid (by unfold permOk; rw [hl])
    have hn12 : 1 ≤ n ∧ n ≤ 12 := by unfold rngB at hv; simp at hv; omega
    clear hv hl
    go_enter Tryz.func106, Tryz.ntmps106
    go_wp2_with fail
    refine (HC.out _).mono ?_
    rintro e w2 ⟨rfl, rfl⟩
    go_wp2
    go_loop [4] (fun i => ∃ k : Nat, k ≤ n ∧ i = .int .i64 k ∧ Hid (allN k (fun x : Nat => p.contains (x : Int)) = true)) (fun i => n - (intOf i).toNat)
    case atStart => exact ⟨0, Nat.zero_le _, rfl, Lib.hid rfl⟩
    case round =>
      obtain ⟨k, hk, rfl, hI⟩ := hrel
      by_cases hlt : k < n
      · have hcd : decide ((k : Int) ∈ p) = p.contains (k : Int) := by rw [Bool.eq_iff_iff]; simp
        have HH := Lib.hid (l01Has_any a n c p (k : Int) w h1 (by omega))
        cases hc : p.contains (k : Int) with
        | true =>
          rw [hc] at hcd
          have HD := Lib.hid hcd; have HCC := Lib.hid hc
          clear hc hcd
          go_wp2_with fail
          refine HH.out.mono ?_
          rintro e w2 ⟨rfl, rfl⟩
          rw [HD.out]
          go_wp2
          go_round
          case rel => exact ⟨k + 1, by omega, by go_num, Lib.hid (allN_succ hI.out HCC.out)⟩
          case measure => simp [intOf]; omega
        | false =>
          rw [hc] at hcd
          have HD := Lib.hid hcd; have HCC := Lib.hid hc
          clear hc hcd
          go_wp2_with fail
          refine HH.out.mono ?_
          rintro e w2 ⟨rfl, rfl⟩
          rw [HD.out]
          go_wp2
          go_ret
          exact ⟨ret_bool (by rw [HQ.out, allN_no hlt HCC.out]; rfl), rfl⟩
      · obtain rfl : k = n := by omega
        go_wp2
        go_ret
        exact ⟨ret_bool ((congrArg (fun b => true && b) (HQ.out.trans hI.out)).symm), rfl⟩
set_option maxHeartbeats 4000000 in
theorem l03Fault_any (a : Option Addr) (n c : Nat) (t : List (List Int)) (w : World) (h1 : Tbl w a n t) (hn1 : 1 ≤ n) (hn : n ≤ 12) (hf : Sq n t) :
    Calls Tryz.prog 107 #[.slice a n c] w (FltN (rkOk n t) w) := by
  obtain ⟨bf, of, A, O, C, rfl, gf⟩ := h1.grid hf hn1
  clear h1
  go_enter Tryz.func107, Tryz.ntmps107
  go_wp2
  go_loopw [4] (fun i wr => ∃ k : Nat, k ≤ n ∧ i = .int .i64 k ∧ Hid (allN k (fun x => allN n fun y => allN n fun z => rkAt t x y z) = true) ∧ ∃ m, wr = w.drewN m) (fun i _ => n - (intOf i).toNat)
  case atStart => exact ⟨0, Nat.zero_le _, rfl, Lib.hid rfl, 0, rfl⟩
  case round =>
    obtain ⟨x, hx, rfl, hx1, m1, rfl⟩ := hrel
    by_cases hlt : x < n
    · go_wp2
      go_loopw [5] (fun i wr => ∃ k : Nat, k ≤ n ∧ i = .int .i64 k ∧ Hid (allN k (fun y => allN n fun z => rkAt t x y z) = true) ∧ ∃ m, wr = w.drewN m) (fun i _ => n - (intOf i).toNat)
      case atStart => exact ⟨0, Nat.zero_le _, rfl, Lib.hid rfl, m1, rfl⟩
      case round =>
        obtain ⟨y, hy, rfl, hy1, m2, rfl⟩ := hrel
        by_cases hlty : y < n
        · go_wp2
          go_loopw [6] (fun i wr => ∃ k : Nat, k ≤ n ∧ i = .int .i64 k ∧ Hid (allN k (fun z => rkAt t x y z) = true) ∧ ∃ m, wr = w.drewN m) (fun i _ => n - (intOf i).toNat)
          case atStart => exact ⟨0, Nat.zero_le _, rfl, Lib.hid rfl, m2, rfl⟩
          case round =>
            obtain ⟨z, hz, rfl, hz1, m3, rfl⟩ := hrel
            by_cases hltz : z < n
            · have l1 := hf.lt hlty hltz
              have l2 := hf.lt hlt hlty
              have l3 := hf.lt hlt hltz
              obtain ⟨r1, k1⟩ := gf.look hlty hltz
              obtain ⟨r2, k2⟩ := gf.look hlt l1
              have k3 := gf.cell _ _ hlt hlty
              have k4 := gf.cell _ _ hlt hltz
              obtain ⟨r5, k5⟩ := gf.look l2 l3
              have hE : rkAt t x y z = decide (tv t x (tv t y z) = tv t (tv t x y) (tv t x z)) := rfl
              generalize tv t y z = q1 at *
              generalize tv t x y = q2 at *
              generalize tv t x z = q3 at *
              generalize tv t x q1 = A1 at *
              generalize tv t q2 q3 = A2 at *
              have HE := Lib.hid hE
              clear hE gf hf
              by_cases p1 : A1 = A2
              · have u1 : ((A1 : Int) != (A2 : Int)) = false := by simp [p1]
                have HE2 : Hid (rkAt t x y z = true) := Lib.hid (by rw [HE.out]; simp [p1])
                clear p1
                go_wp2
                go_quiet (fail)
                go_wp2
                go_roundw
                case rel => exact ⟨z + 1, by omega, by go_num, Lib.hid (allN_succ hz1.out HE2.out), _, rfl⟩
                case measure => simp [intOf]; omega
              · have u1 : ((A1 : Int) != (A2 : Int)) = true := by simp; omega
                have HE2 : Hid (rkAt t x y z = false) := Lib.hid (by rw [HE.out]; simp [p1])
                clear p1
                go_wp2
                go_quiet (fail)
                go_wp2
                go_ret
                exact ⟨.inr ⟨allN_no hlt (allN_no hlty (allN_no hltz HE2.out)), _, _, rfl⟩, below_al (below_drewN (Below.refl _ _) _) _⟩
            · obtain rfl : z = n := by omega
              go_wp2
              go_roundw
              case rel => exact ⟨y + 1, by omega, by go_num, Lib.hid (allN_succ hy1.out hz1.out), _, rfl⟩
              case measure => simp [intOf]; omega
        · obtain rfl : y = n := by omega
          go_wp2
          go_roundw
          case rel => exact ⟨x + 1, by omega, by go_num, Lib.hid (allN_succ hx1.out hy1.out), _, rfl⟩
          case measure => simp [intOf]; omega
    · obtain rfl : x = n := by omega
      go_wp2
      go_ret
      exact ⟨.inl ⟨hx1.out, rfl⟩, below_drewN (Below.refl _ _) _⟩
set_option maxHeartbeats 2000000 in
theorem l03Is_any (a : Option Addr) (n c : Nat) (t : List (List Int)) (w : World) (h1 : Tbl w a n t) (hm : n ≤ 9223372036854775807) :
    Calls Tryz.prog 58 #[rAgg a n c] w fun e w' => e = .returned (.bool (isRk t)) ∧ Below w.heap.size w w' := by
  have hA := Loc.new w rfl #[.slice a n c] 34
  cases hf : isTab t with
  | false =>
    have HQ : Hid (isRk t = false) := Lib.hid (isRk_no hf)
    have HF := Lib.hid hf; clear hf
    go_enter Tryz.func58, Tryz.ntmps58
    go_wp2_with fail
    refine (l01Table_any _ _ _ _ _ (h1.alloc _) hm).mono ?_
    rintro e w1 ⟨rfl, rfl⟩
    rw [HF.out]
    go_wp2
    go_ret
    exact ⟨ret_bool HQ.out.symm, below_al (Below.refl _ _) _⟩
  | true =>
    obtain ⟨hn1, hn12, sf⟩ := isTab_sq hf
    have hl := h1.len
    rw [← hl] at hn1 hn12 sf
    have HQ : Hid (isRk t = (t.all permOk && rkOk n t)) := Lib.hid (by unfold isRk; rw [hf, ← hl]; rfl)
    have HF := Lib.hid hf; have HSF := Lib.hid sf; have HL := Lib.hid hl
    have hr12 : rngB 1 12 (n : Int) = true := by unfold rngB; simp; omega
    have HR := Lib.hid hr12
    clear hf sf hl hr12
    have hB := below_al (Below.refl w.heap.size w) (.cells #[.slice a n c] 34)
    have t0 := h1.alloc (.cells #[.slice a n c] 34)
    have lA := hA.one
    go_enter Tryz.func58, Tryz.ntmps58
    go_wp2_with fail
    refine (l01Table_any _ _ _ _ _ (h1.alloc _) hm).mono ?_
    rintro e w1 ⟨rfl, rfl⟩
    rw [HF.out]
    go_wp2
    generalize w.alloc (.cells #[.slice a n c] 34) = w0 at *
    go_loop [3] (fun i => ∃ k : Nat, k ≤ n ∧ i = .int .i64 k ∧ Hid ((t.take k).all permOk = true)) (fun i => n - (intOf i).toNat)
    case atStart => exact ⟨0, Nat.zero_le _, rfl, Lib.hid (by simp)⟩
    case round =>
      obtain ⟨k, hk, rfl, hI⟩ := hrel
      by_cases hlt : k < n
      · obtain ⟨b, off, ai, ni, ci, rfl, g1, hri, hni⟩ := t0.at k hlt
        have hx : k < t.length := by have := HL.out; omega
        have hrl := HSF.out.row hlt
        have hll := hri.len
        obtain rfl : ni = n := by omega
        rw [Tbl.getD hx] at hri
        have HPP := Lib.hid (fun (w : World) (hr : Row w ai ni t[k]) => l01Perm_any ai ni ci t[k] w hr (by omega))
        cases hp : permOk t[k] with
        | true =>
          have HP := Lib.hid hp
          clear hp hrl hll t0
          go_wp2_with fail
          refine (HPP.out _ hri).mono ?_
          rintro e w2 ⟨rfl, rfl⟩
          rw [HR.out, HP.out]
          go_wp2
          go_round
          case rel => exact ⟨k + 1, by omega, by go_num, Lib.hid (all_get_succ hx hI.out HP.out)⟩
          case measure => simp [intOf]; omega
        | false =>
          have HP := Lib.hid hp
          clear hp hrl hll t0
          go_wp2_with fail
          refine (HPP.out _ hri).mono ?_
          rintro e w2 ⟨rfl, rfl⟩
          rw [HR.out, HP.out]
          go_wp2
          go_ret
          exact ⟨ret_bool (by rw [HQ.out, all_no hx HP.out]; rfl), hB⟩
      · obtain rfl : k = n := by omega
        have ha := hI.out
        rw [List.take_of_length_le (by have := HL.out; omega)] at ha
        have HA := Lib.hid ha; clear ha
        go_wp2_with fail
        refine (l03Fault_any _ _ _ t _ t0 hn1 hn12 HSF.out).mono ?_
        rintro e w3 ⟨he, hb3⟩
        rcases he with ⟨hc, rfl⟩ | ⟨hc, b, k', rfl⟩
        · have HD := Lib.hid hc; clear hc
          go_wp2
          go_ret
          exact ⟨ret_bool (by rw [HQ.out, HA.out, HD.out]; rfl), below_th hB hb3⟩
        · have HD := Lib.hid hc; clear hc
          go_wp2
          go_ret
          exact ⟨ret_bool (by rw [HQ.out, HA.out, HD.out]; rfl), below_th hB hb3⟩
end Go.Proofs.YtaddclaadbjnlaaGreat
namespace Go.Proofs.YtaddclaadbjnlaaGreat
set_option linter.unusedVariables false
set_option linter.unusedSimpArgs false
def digL (n k N : Nat) : List Int := (List.range k).map fun i => ((N / n ^ (k - 1 - i) % n : Nat) : Int)
def digP (n k N j : Nat) : List Int := (List.range k).map fun i => if k ≤ i + j then ((N / n ^ (k - 1 - i) % n : Nat) : Int) else 0
theorem digL_len (n k N : Nat) : (digL n k N).length = k := by simp [digL]
theorem digP_zero (n k N : Nat) : digP n k N 0 = List.replicate k 0 := by
  apply List.ext_getElem
  · simp [digP]
  · intro i h1 h2
    have hi : i < k := by simpa [digP] using h1
    simp [digP]; omega
theorem digP_full (n k N : Nat) : digP n k N k = digL n k N := by
  unfold digP digL
  apply List.map_congr_left
  intro i hi
  rw [if_pos (by omega)]
theorem digP_step (n k N j : Nat) (hj : j < k) : (digP n k N j).set (k - 1 - j) ((N / n ^ j % n : Nat) : Int) = digP n k N (j + 1) := by
  apply List.ext_getElem
  · simp [digP]
  · intro i h1 h2
    have hi : i < k := by simpa [digP] using h2
    rw [List.getElem_set]
    by_cases e : k - 1 - j = i
    · rw [if_pos e]
      simp only [digP, List.getElem_map, List.getElem_range]
      rw [if_pos (by omega)]
      have : k - 1 - i = j := by omega
      rw [this]
    · rw [if_neg e]
      simp only [digP, List.getElem_map, List.getElem_range]
      by_cases e2 : k ≤ i + j
      · rw [if_pos e2, if_pos (by omega)]
      · rw [if_neg e2, if_neg (by omega)]
theorem digL_less (n k N : Nat) (hn : 1 ≤ n) : Less n (digL n k N) := by
  intro i hi
  have hi' : i < k := by rw [digL_len] at hi; exact hi
  refine ⟨N / n ^ (k - 1 - i) % n, Nat.mod_lt _ hn, ?_⟩
  rw [List.getD_eq_getElem?_getD, List.getElem?_eq_getElem hi]
  simp [digL]
theorem div_pow_succ (n j N : Nat) : N / n ^ j / n = N / n ^ (j + 1) := by rw [Nat.div_div_eq_div_mul, Nat.pow_succ]
def cstL (n : Nat) : List (List Int) := tabF n fun x _ => (x : Int)
theorem tabF_getD {n : Nat} {v : Nat → Nat → Int} {x y : Nat} (hx : x < n) (hy : y < n) : ((tabF n v).getD x []).getD y 0 = v x y := by
  rw [tabF_get n v x hx]; simp [List.getD_eq_getElem?_getD, List.getElem?_map, hy]
theorem tv_tab2 {n : Nat} {v : Nat → Nat → Int} {x y : Nat} (hx : x < n) (hy : y < n) : tv (tabF n v) x y = (v x y).toNat := by
  unfold tv; rw [tabF_getD hx hy]
theorem tabF_sq {n : Nat} {v : Nat → Nat → Int} (h : ∀ x y, x < n → y < n → 0 ≤ v x y ∧ v x y < n) : Sq n (tabF n v) := by
  refine ⟨tabF_len n v, fun x hx => ⟨?_, fun y hy => ?_⟩⟩
  · rw [tabF_get n v x hx]; simp
  · have := h x y hx hy
    rw [tv_tab2 hx hy, tabF_getD hx hy]
    omega
theorem sq_isTab {n : Nat} {t : List (List Int)} (h : Sq n t) (h1 : 1 ≤ n) (h2 : n ≤ 12) : isTab t = true := by
  unfold isTab
  rw [h.len, Bool.and_eq_true]
  refine ⟨by unfold rngB; simp; omega, ?_⟩
  rw [List.all_eq_true]
  intro r hr
  obtain ⟨x, hx, rfl⟩ := List.getElem_of_mem hr
  have hxn : x < n := by rw [h.len] at hx; exact hx
  have e2 : t.getD x [] = t[x] := by simp [List.getD_eq_getElem?_getD, List.getElem?_eq_getElem hx]
  have hl := h.row hxn
  rw [e2] at hl
  unfold rowOk
  rw [Bool.and_eq_true]
  refine ⟨by simp [hl], ?_⟩
  rw [List.all_eq_true]
  intro z hz
  obtain ⟨y, hy, rfl⟩ := List.getElem_of_mem hz
  have hv := h.val hxn (show y < n by omega)
  have hlt := h.lt hxn (show y < n by omega)
  rw [e2, List.getD_eq_getElem?_getD, List.getElem?_eq_getElem hy] at hv
  simp only [Option.getD_some] at hv
  rw [hv]
  unfold rngB
  simp
  omega
theorem cst_sq (n : Nat) : Sq n (cstL n) := tabF_sq fun x y hx hy => by omega
section
variable {t M : List (List Int)} {m : Int}
end
end Go.Proofs.YtaddclaadbjnlaaGreat
namespace Go.Proofs.YtaddclaadbjnlaaGreat
set_option maxRecDepth 100000
set_option linter.unusedVariables false
set_option linter.unusedSimpArgs false
open Go.RowKit
def RwsP (n : Nat) (t : List (List Int)) : Prop := t.length = n ∧ ∀ i, i < n → IsP n (t.getD i [])
theorem RwsP.sq {n : Nat} {t : List (List Int)} (h : RwsP n t) : Sq n t := by
  refine ⟨h.1, fun x hx => ⟨(h.2 x hx).len, fun y hy => ?_⟩⟩
  obtain ⟨z, hz, hzn⟩ := (h.2 x hx).at hy
  have : tv t x y = z := by unfold tv; rw [hz, Int.toNat_natCast]
  rw [this]; exact ⟨hzn, hz⟩
def sqrL (n : Nat) (t : List (List Int)) : List Int := (List.range n).map fun x : Nat => cyV t x x
theorem sqrL_len (n : Nat) (t : List (List Int)) : (sqrL n t).length = n := by simp [sqrL]
def cyfP (t : List (List Int)) (x y z : Nat) : Bool := decide (cyV t (cyV t x y).toNat (cyV t x z).toNat = cyV t (cyV t y x).toNat (cyV t y z).toNat)
def cyfY (n : Nat) (t : List (List Int)) (x y : Nat) : Bool := (List.range n).all fun z => cyfP t x y z
def cyfX (n : Nat) (t : List (List Int)) (x : Nat) : Bool := (List.range n).all fun y => cyfY n t x y
def cyfOk (n : Nat) (t : List (List Int)) : Bool := (List.range n).all fun x => cyfX n t x
def isCyc (n : Nat) (t : List (List Int)) : Bool := permOk (sqrL n t) && cyfOk n t
theorem isP_perm {n : Nat} {p : List Int} (h : IsP n p) : permOk p = true := by
  obtain ⟨f, g, hl, h1, h2⟩ := h
  unfold permOk allN
  rw [List.all_eq_true]
  intro x hx
  have hx := List.mem_range.1 hx
  rw [hl] at hx
  have h3 := h1 x hx
  have h4 := h2 (g x) h3.2.1
  rw [h3.2.2.1] at h4
  rw [List.contains_iff_mem, ← h4]
  exact getD_mem (by omega)
def idxP (p : List Int) (x : Int) : Nat := p.findIdx fun y => decide (y = x)
theorem idxP_of {p : List Int} {x : Int} {k : Nat} (hk : k < p.length) (h : p.getD k 0 = x) (h2 : ∀ j, j < k → p.getD j 0 ≠ x) : idxP p x = k := by
  unfold idxP
  rw [List.findIdx_eq hk]
  rw [List.getD_eq_getElem?_getD, List.getElem?_eq_getElem hk] at h
  refine ⟨by simpa using h, fun j hj => ?_⟩
  have := h2 j hj
  rw [List.getD_eq_getElem?_getD, List.getElem?_eq_getElem (by omega)] at this
  simpa using this
set_option maxHeartbeats 2000000 in
theorem l01Index_perm (n x : Nat) (a : Option Addr) (c : Nat) (p : List Int) (w : World) (h : Row w a n p) (hp : IsP n p) (hx : x < n) (hn : n ≤ 1000) :
    Calls Tryz.prog 159 #[.slice a n c, .int .i64 x] w fun e w' => e = .returned (.int .i64 (idxP p x)) ∧ idxP p x < n ∧ w' = w := by
  have HL := Lib.hid h.len
  obtain ⟨k0, hk0, hk1⟩ : ∃ k, k < n ∧ p.getD k 0 = (x : Int) := by
    obtain ⟨f, g, _, h1, h2⟩ := hp
    exact ⟨g x, (h1 x hx).2.1, by rw [h2 _ (h1 x hx).2.1, (h1 x hx).2.2.1]⟩
  have HK := Lib.hid (And.intro hk0 hk1)
  clear hk0 hk1 hp
  go_enter Tryz.func159, Tryz.ntmps159
  go_wp2
  go_loop [5] (fun i => ∃ k : Nat, k ≤ n ∧ i = .int .i64 k ∧ Hid (∀ j, j < k → p.getD j 0 ≠ (x : Int))) (fun i => n - (intOf i).toNat)
  case atStart => exact ⟨0, Nat.zero_le _, rfl, Lib.hid fun j hj => absurd hj (by omega)⟩
  case round =>
    obtain ⟨k, hk, rfl, HN⟩ := hrel
    by_cases hlt : k < n
    · obtain ⟨b, o, rfl, g⟩ := h.at k hlt
      obtain ⟨v, HV⟩ : ∃ v, Hid (p.getD k 0 = v) := ⟨_, Lib.hid rfl⟩
      rw [HV.out] at g
      have i1 : (0 : Int) ≤ (k : Int) := by omega
      have i2 : (k : Int) < (n : Int) := by omega
      by_cases hv : v = (x : Int)
      · have HI : Hid (idxP p x = k) := Lib.hid (idxP_of (by have := HL.out; omega) (by rw [HV.out, hv]) HN.out)
        have hb : (v == (x : Int)) = true := by simpa using hv
        subst hv
        go_wp2
        go_ret
        exact ⟨by rw [HI.out]; rfl, by rw [HI.out]; exact hlt, rfl⟩
      · have hb : (v == (x : Int)) = false := by simpa using hv
        go_wp2
        go_round
        case rel => exact ⟨k + 1, by omega, by go_num, Lib.hid fun j hj => by
          by_cases e : j = k
          · rw [e, HV.out]; exact hv
          · exact HN.out j (by omega)⟩
        case measure => simp [intOf]; omega
    · exact absurd HK.out.2 (HN.out k0 (by have := HK.out.1; omega))
set_option maxHeartbeats 8000000 in
theorem l02Involutive_any (n : Nat) (a : Option Addr) (c : Nat) (t : List (List Int)) (w : World) (h1 : Tbl w a n t) (hp : RwsP n t) (n1 : 1 ≤ n) (hn : n ≤ 100) :
    Calls Tryz.prog 175 #[.slice a n c] w (SolB w n) := by
  have hs := hp.sq
  have HRL : Hid (∀ x ∈ t, x.length ≤ 1000000) := Lib.hid fun x hx => by
    obtain ⟨i, hi, rfl⟩ := List.getElem_of_mem hx
    have := hs.row (x := i) (by rw [← hs.len]; exact hi)
    rw [List.getD_eq_getElem?_getD, List.getElem?_eq_getElem hi, Option.getD_some] at this
    omega
  obtain ⟨U, hU⟩ : ∃ U : Nat → Nat → Int, U = fun x y => ((idxP (t.getD (tv t x y) []) x : Nat) : Int) := ⟨_, rfl⟩
  have HUE : Hid (∀ x y, U x y = ((idxP (t.getD (tv t x y) []) x : Nat) : Int)) := Lib.hid fun x y => by rw [hU]
  have HSU : Hid (Sq n (tabF n U)) := Lib.hid (tabF_sqI fun x y hx hy => by
    rw [HUE.out]
    have hq := hp.2 _ (hs.lt hx hy)
    obtain ⟨f, g, hl, g1, g2⟩ := hq
    have hlt := (g1 x hx).2.1
    have : idxP (t.getD (tv t x y) []) x < n := by
      unfold idxP
      have h2 : List.findIdx (fun y => decide (y = (x : Int))) (t.getD (tv t x y) []) < (t.getD (tv t x y) []).length := by
        rw [List.findIdx_lt_length]
        refine ⟨(t.getD (tv t x y) [])[g x]'(by omega), List.getElem_mem _, ?_⟩
        have h3 := g2 (g x) hlt
        rw [(g1 x hx).2.2.1, getD_at (by omega)] at h3
        simpa using h3
      omega
    omega)
  clear hU
  have HP := Lib.hid hp.2
  have HS := Lib.hid hs
  obtain ⟨bt, ot, A, O, C, rfl, G⟩ := h1.grid hs n1
  clear hs hp
  have hR := Loc.new w rfl #[.slice none 0 0, .slice none 0 0] 53
  have hB0 := below_al (Below.refl w.heap.size w) (.cells #[.slice none 0 0, .slice none 0 0] 53)
  go_enter Tryz.func175, Tryz.ntmps175
  go_wp2_with fail
  refine (l01Own2_any _ n c t _ (h1.below hB0) (by omega) HRL.out).mono ?_
  rintro e w1 ⟨aF, cF, vF, rfl, hoF, hb1⟩
  have hR1 := hR.below hb1 hR.lt
  have hB1 := below_th hB0 hb1
  have hFhi := hoF.uHi
  have hFlo := hoF.uLo
  rw [size_alloc] at hFlo
  obtain ⟨w2, hw2⟩ : ∃ w2, w1.alloc (.cells #[.slice aF n cF, .slice none 0 0] 53) = w2 := ⟨_, rfl⟩
  have hO2 : Loc w2 w1.heap.size #[.slice aF n cF, .slice none 0 0] 53 := by rw [← hw2]; exact Loc.new w1 rfl _ _
  have hb2 : Below w1.heap.size w1 w2 := by rw [← hw2]; exact below_al (Below.refl _ _) _
  have hR2 := hR1.below hb2 hR1.lt
  have hF2 := (hoF.mono (lo' := w.heap.size + 1) (by rw [size_alloc]; exact Nat.le_refl _)).below hb2
  have hB2 := below_th hB1 hb2
  have hz2 : w2.heap.size = w1.heap.size + 1 := by rw [← hw2]; simp
  have HZ2 := Lib.hid hz2
  have hR1l := hR1.lt
  have HW2 := Lib.hid hw2
  clear hw2 hz2 hoF hR hR1 hB0 hB1 h1
  go_wp2
  try rw [HW2.out]
  go_loopw [4, 5, 6] (fun i _ _ wr => ∃ (k : Nat) (ay : Option Addr) (cy : Nat) (vy : List SV), k ≤ n ∧ i = .int .i64 k ∧ Loc wr w1.heap.size #[.slice aF n cF, .slice ay k cy] 53 ∧ Loc wr w.heap.size #[.slice none 0 0, .slice none 0 0] 53 ∧ OwnT wr (w.heap.size + 1) aF n cF vF t ∧ OwnT wr w2.heap.size ay k cy vy ((tabF n U).take k) ∧ Below w.heap.size w wr) (fun i _ _ _ => n - (intOf i).toNat)
  case atStart => exact ⟨0, none, 0, [], Nat.zero_le _, rfl, hO2, hR2, hF2, by simpa using OwnT.nil _ _, hB2⟩
  case round =>
    clear hO2 hR2 hF2 hB2
    obtain ⟨k, ay, cy, vy, hk, rfl, hO, hR, hF, hy, hB⟩ := hrel
    have hz2 := HZ2.out
    have hOlt := hO.lt
    by_cases hlt : k < n
    · have hE := Own.fresh wr rfl
      have hqe := below_al (Below.refl wr.heap.size wr) (.cells #[] 2)
      have HRU := Lib.hid (tabF_succ U hlt)
      go_wp2
      go_loopw [5, 6] (fun z i wq => ∃ (j : Nat) (ar : Option Addr) (cr : Nat), j ≤ n ∧ i = .int .i64 j ∧ z = .slice ar j cr ∧ Own wq wr.heap.size ar j cr ((List.range j).map fun y => U k y) ∧ Below wr.heap.size wr wq) (fun _ i _ => n - (intOf i).toNat)
      case atStart => exact ⟨0, _, 0, Nat.zero_le _, rfl, rfl, by simpa using hE, hqe⟩
      case round =>
        clear hE hqe
        obtain ⟨j, ar, cr, hj, rfl, rfl, hor, hqr⟩ := hrel
        have hwq := hqr.size
        obtain ⟨W, rfl⟩ : ∃ W : World, W = wr := ⟨_, rfl⟩
        by_cases hjt : j < n
        · have HU1 : Hid (((List.range (j + 1)).map fun y => U k y) = ((List.range j).map fun y => U k y) ++ [U k j]) := Lib.hid (by simp [List.range_succ])
          have hBW := hB.trans (hqr.mono hB.size)
          have hu := HS.out.lt hlt hjt
          obtain ⟨r1, k1⟩ := (G.below hBW).look hlt hjt
          have hUkj := HUE.out k j
          have HIP := Lib.hid (HP.out (tv t k j) hu)
          have r2 := (G.below hBW).row _ hu
          have hrow : Row W (some ⟨A (tv t k j), O (tv t k j), none⟩) n (t.getD (tv t k j) []) := ⟨by rw [HS.out.row hu], fun y hy => ⟨_, _, rfl, (G.below hBW).rlt _ hu, by rw [HS.out.val hu hy]; exact (G.below hBW).cell _ _ hu hy⟩⟩
          obtain ⟨u, HUU⟩ : ∃ u, Hid (tv t k j = u) := ⟨_, Lib.hid rfl⟩
          rw [HUU.out] at k1 hu hUkj HIP r2 hrow
          rw [hUkj] at HU1
          clear hUkj
          obtain ⟨X, HX⟩ : ∃ X, Hid (idxP (t.getD u []) (k : Int) = X) := ⟨_, Lib.hid rfl⟩
          have HCX := Lib.hid (fun (v : World) (hv : Row v (some ⟨A u, O u, none⟩) n (t.getD u [])) => l01Index_perm n k _ (C u) _ v hv HIP.out hlt (by omega))
          have hcx := HCX.out
          rw [HX.out] at hcx HU1
          have HCY := Lib.hid hcx
          clear hcx HCX
          have i1 : (0 : Int) ≤ (k : Int) := by omega
          have i2 : (k : Int) < (n : Int) := by omega
          have i3 : (0 : Int) ≤ (j : Int) := by omega
          have i4 : (j : Int) < (n : Int) := by omega
          have i5 : (0 : Int) ≤ (u : Int) := by omega
          have i6 : (u : Int) < (n : Int) := by omega
          go_wp2_with fail
          refine (HCY.out _ hrow).mono ?_
          rintro e w5 ⟨rfl, _, hw5⟩
          obtain rfl : W = w5 := hw5.symm
          go_wp2_with (at_builtin; refine app1 rfl rfl hor rfl rfl (by omega) hwq ?_; intro g' cc w8 hO8 hg8 hs8 hb8)
          go_roundw
          case rel => exact ⟨j + 1, _, _, by omega, by go_num, rfl, by rw [HU1.out]; exact hO8, hqr.trans hb8⟩
          case measure => simp [intOf]; omega
        · obtain rfl : j = n := by omega
          have hO3 := hO.below hqr hO.lt
          have hR3 := hR.below hqr hR.lt
          have hF3 := hF.below hqr
          have lO := hO3.two
          have hy3 := hy.below hqr
          have hyhi := hy.uHi
          have hylo := hy.uLo
          have hrlo := hor.lo
          have hBs := hB.size
          have hB3 := hB.trans (hqr.mono hBs)
          go_wp2_with (at_builtin; refine appT1g rfl rfl hy3 rfl (hor.mono (by omega)) (fun g h1 h2 => by have h3 := hyhi _ (.inl h1); have h4 := hrlo _ h2; omega) (fun i hi g h1 h2 => by have h3 := hrlo _ h1; have h4 := hyhi _ (.inr ⟨i, hi, h2⟩); omega) rfl (by omega) (by omega) ?_; intro g6 cc6 w6 hOT6 hg6 hat6 hb6; have hO6 := hO3.below hb6 (by omega); have lO6 := hO6.two)
          have hF6 := hF3.keep (w' := w6) (fun q hq hl => hb6.block q (by have := hFhi q hq; omega))
          have hR6 := hR3.below hb6 (by omega)
          have hB6 := hB3.trans (hb6.mono (by omega))
          have hO7 := hO6.set 1 (.slice (some ⟨g6, 0, none⟩) (k + 1) cc6)
          go_roundw
          case rel => exact ⟨k + 1, _, _, _, by omega, by go_num, hO7, hR6.setne (a := ⟨w1.heap.size, 1, none⟩) (by show w.heap.size ≠ w1.heap.size; omega) _, hF6.keep (fun q hq hl => Below.heap_setCell _ _ _ _ (by have := hFhi q hq; show q ≠ w1.heap.size; omega)), by rw [HRU.out]; exact hOT6.setlo (by show w1.heap.size < w2.heap.size; omega) _, below_setne (a := ⟨w1.heap.size, 1, none⟩) hB6 (by show w.heap.size ≤ w1.heap.size; omega) _⟩
          case measure => simp [intOf]; omega
    · obtain rfl : k = n := by omega
      rw [List.take_of_length_le (by rw [tabF_len]; exact Nat.le_refl _)] at hy
      have lO := hO.two
      have lR := hR.two
      have hylo := hy.uLo
      go_wp2
      refine bodyPost_ret (v := sAgg aF k cF ay k cy) (by simp [results, Tryz.results175, go_sem, lR, lO]) rfl ⟨aF, cF, vF, _, ay, cy, vy, _, rfl, ⟨?_, ?_, fun q e1 e2 => by have := hFhi q e1; have := hylo q e2; omega⟩, HS.out, HSU.out, ?_⟩
      · exact ((hF.setlo (by show w.heap.size < w.heap.size + 1; omega) _).setlo (by show w.heap.size < w.heap.size + 1; omega) _).mono (by omega)
      · exact ((hy.setlo (by show w.heap.size < w2.heap.size; omega) _).setlo (by show w.heap.size < w2.heap.size; omega) _).mono (by omega)
      · exact below_setne (below_setne hB (by show w.heap.size ≤ w.heap.size; omega) _) (by show w.heap.size ≤ w.heap.size; omega) _
end Go.Proofs.YtaddclaadbjnlaaGreat
