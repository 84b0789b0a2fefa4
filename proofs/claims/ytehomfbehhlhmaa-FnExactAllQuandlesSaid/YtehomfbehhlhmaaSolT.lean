/-
  Tables and pair maps: what the reference's questions answer.
  No condition but bounds on lengths.
-/
import Derived.Test.YtehomfbehhlhmaaBase
namespace Go.Proofs.Ytehomfbehhlhmaa
set_option maxRecDepth 100000
set_option linter.unusedVariables false
set_option linter.unusedSimpArgs false
open Go.RowKit

theorem rowOk_len {n m : Int} {xs : List Int} (h : (xs.length : Int) ≠ n) : rowOk n m xs = false := by unfold rowOk; simp [h]
theorem rowOk_mk {n m : Int} {xs : List Int} (h : (xs.length : Int) = n) : rowOk n m xs = xs.all (rngB 0 (m - 1)) := by unfold rowOk; simp [h]

set_option maxHeartbeats 2000000 in
theorem l01Table_any (a : Option Addr) (n c : Nat) (t : List (List Int)) (w : World) (h1 : Tbl w a n t) (hm : n ≤ 9223372036854775807) :
    Calls Try.prog 172 #[.slice a n c] w fun e w' => e = .returned (.bool (isTab t)) ∧ w = w' := by
  have hl := h1.len
  cases hp : rngB 1 12 n with
  | false =>
    have hq : isTab t = false := by unfold isTab; rw [← hl, hp]; rfl
    have HQ := Lib.hid hq
    have HC := Lib.hid (fun w => l01In_b n 1 12 false hp w); clear hp hl hq
    go_enter Try.func172, Try.ntmps172
    go_wp2_with fail
    refine (HC.out _).mono ?_
    rintro e w' ⟨rfl, rfl⟩
    go_wp2
    go_ret
    exact ⟨ret_bool HQ.out.symm, rfl⟩
  | true =>
    have hn12 : 1 ≤ n ∧ n ≤ 12 := by unfold rngB at hp; simp at hp; omega
    obtain ⟨hn1, hn12⟩ := hn12
    have HC := Lib.hid (fun w => l01In_b n 1 12 true hp w)
    have hq : isTab t = t.all (rowOk n n) := by unfold isTab; rw [← hl, hp]; rfl
    have HQ := Lib.hid hq; have HL := Lib.hid hl; clear hq hl hp
    go_enter Try.func172, Try.ntmps172
    go_wp2_with fail
    refine (HC.out _).mono ?_
    rintro e w' ⟨rfl, rfl⟩
    go_wp2
    go_loop [4] (fun i => ∃ k : Nat, k ≤ n ∧ i = .int .i64 k ∧ Hid ((t.take k).all (rowOk n n) = true)) (fun i => n - (intOf i).toNat)
    case atStart => exact ⟨0, Nat.zero_le _, rfl, Lib.hid (by simp)⟩
    case round =>
      obtain ⟨k, hk, rfl, hall⟩ := hrel
      by_cases hlt : k < n
      · obtain ⟨b, off, ai, ni, ci, rfl, g1, hri, hni⟩ := h1.at k hlt
        have hx : k < t.length := by have := HL.out; omega
        rw [Tbl.getD hx] at hri
        have hll := hri.len
        by_cases hnn : ni = n
        · subst hnn
          have b1 : ((ni : Int) != (ni : Int)) = false := by simp
          have HR : Hid (rowOk ni ni t[k] = t[k].all (rngB 0 ((ni : Int) - 1))) := Lib.hid (rowOk_mk (by omega))
          have HLL := Lib.hid hll; clear hll
          go_wp2
          go_loop [5] (fun i => ∃ j : Nat, j ≤ ni ∧ i = .int .i64 j ∧ Hid ((t[k].take j).all (rngB 0 ((ni : Int) - 1)) = true)) (fun i => ni - (intOf i).toNat)
          case atStart => exact ⟨0, Nat.zero_le _, rfl, Lib.hid (by simp)⟩
          case round =>
            obtain ⟨j, hj, rfl, hin⟩ := hrel
            by_cases hjt : j < ni
            · obtain ⟨b2, o2, rfl, g2⟩ := hri.at j hjt
              have hy : j < t[k].length := by have := HLL.out; omega
              have e : t[k].getD j 0 = t[k][j] := by simp [List.getD_eq_getElem?_getD, List.getElem?_eq_getElem hy]
              rw [e] at g2
              clear h1 hri e
              cases hv : rngB 0 ((ni : Int) - 1) t[k][j] with
              | true =>
                have HD := Lib.hid (fun w => l01In_b t[k][j] 0 ((ni : Int) - 1) true hv w)
                have HV := Lib.hid hv; clear hv
                generalize t[k][j] = V at g2 HD
                go_wp2_with fail
                refine (HD.out _).mono ?_
                rintro e w' ⟨rfl, rfl⟩
                go_wp2
                go_round
                case rel => exact ⟨j + 1, by omega, by go_num, Lib.hid (all_get_succ hy hin.out HV.out)⟩
                case measure => simp [intOf]; omega
              | false =>
                have HD := Lib.hid (fun w => l01In_b t[k][j] 0 ((ni : Int) - 1) false hv w)
                have HV := Lib.hid hv; clear hv
                generalize t[k][j] = V at g2 HD
                go_wp2_with fail
                refine (HD.out _).mono ?_
                rintro e w' ⟨rfl, rfl⟩
                go_wp2
                go_ret
                exact ⟨ret_bool (by rw [HQ.out]; exact (all_no hx (by rw [HR.out]; exact all_no hy HV.out)).symm), rfl⟩
            · obtain rfl : j = ni := by omega
              have ha := hin.out
              rw [List.take_of_length_le (by have := HLL.out; omega)] at ha
              have HA := Lib.hid ha; clear ha
              go_wp2
              go_round
              case rel => exact ⟨k + 1, by omega, by go_num, Lib.hid (all_get_succ hx hall.out (by rw [HR.out]; exact HA.out))⟩
              case measure => simp [intOf]; omega
        · have b1 : ((ni : Int) != (n : Int)) = true := by simp; omega
          have HN : Hid (rowOk n n t[k] = false) := Lib.hid (rowOk_len (by omega))
          clear hll hnn
          go_wp2
          go_ret
          exact ⟨ret_bool (by rw [HQ.out]; exact (all_no hx HN.out).symm), rfl⟩
      · obtain rfl : k = n := by omega
        have ha := hall.out
        rw [List.take_of_length_le (by have := HL.out; omega)] at ha
        have HA := Lib.hid ha; clear ha
        go_wp2
        go_ret
        exact ⟨ret_bool (by rw [HQ.out]; exact HA.out.symm), rfl⟩

set_option maxHeartbeats 1000000 in
theorem l02Map_any (a : Option Addr) (n c : Nat) (a' : Option Addr) (n' c' : Nat) (f g : List (List Int)) (w : World) (h1 : Tbl w a n f) (h2 : Tbl w a' n' g) (hm1 : n ≤ 9223372036854775807) (hm2 : n' ≤ 9223372036854775807) :
    Calls Try.prog 216 #[sAgg a n c a' n' c'] w fun e w' => e = .returned (.bool (isPm f g)) ∧ Below w.heap.size w w' := by
  have hl1 := h1.len
  have hl2 := h2.len
  have HL : Hid (decide (f.length = g.length) = decide (n = n')) := Lib.hid (by rw [← hl1, ← hl2])
  clear hl1 hl2
  cases hf : isTab f with
  | false =>
    have HF := Lib.hid hf; clear hf
    go_enter Try.func216, Try.ntmps216
    go_wp2_with fail
    refine (l01Table_any _ _ _ _ _ (h1.alloc _) hm1).mono ?_
    rintro e w1 ⟨rfl, rfl⟩
    rw [HF.out]
    go_wp2
    go_ret
    exact ⟨ret_bool (by unfold isPm; rw [HF.out]; rfl), below_al (Below.refl _ _) _⟩
  | true =>
    have HF := Lib.hid hf; clear hf
    cases hg : isTab g with
    | false =>
      have HG := Lib.hid hg; clear hg
      go_enter Try.func216, Try.ntmps216
      go_wp2_with fail
      refine (l01Table_any _ _ _ _ _ (h1.alloc _) hm1).mono ?_
      rintro e w1 ⟨rfl, rfl⟩
      rw [HF.out]
      go_wp2_with fail
      refine (l01Table_any _ _ _ _ _ (h2.alloc _) hm2).mono ?_
      rintro e w1 ⟨rfl, rfl⟩
      rw [HG.out]
      go_wp2
      go_ret
      exact ⟨ret_bool (by unfold isPm; rw [HF.out, HG.out]; rfl), below_al (Below.refl _ _) _⟩
    | true =>
      have HG := Lib.hid hg; clear hg
      have HQ : Hid (isPm f g = decide ((n : Int) = (n' : Int))) := Lib.hid (by unfold isPm; rw [HF.out, HG.out, HL.out]; simp [Int.ofNat_inj])
      go_enter Try.func216, Try.ntmps216
      go_wp2_with fail
      refine (l01Table_any _ _ _ _ _ (h1.alloc _) hm1).mono ?_
      rintro e w1 ⟨rfl, rfl⟩
      rw [HF.out]
      go_wp2_with fail
      refine (l01Table_any _ _ _ _ _ (h2.alloc _) hm2).mono ?_
      rintro e w1 ⟨rfl, rfl⟩
      rw [HG.out]
      go_wp2
      go_ret
      exact ⟨ret_bool (by rw [HQ.out]; rfl), below_al (Below.refl _ _) _⟩

end Go.Proofs.Ytehomfbehhlhmaa
