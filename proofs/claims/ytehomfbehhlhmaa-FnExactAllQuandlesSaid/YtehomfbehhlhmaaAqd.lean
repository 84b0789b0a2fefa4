/-
  AllQuandles: what the reference's and the program's compute.
  No condition but bounds.
-/
import Derived.Test.YtehomfbehhlhmaaOrd
import Derived.Test.YtehomfbehhlhmaaArkB
import Derived.Test.YtehomfbehhlhmaaULRk
import Derived.Test.YtehomfbehhlhmaaDelW
import Derived.Test.YtehomfbehhlhmaaQndI
import Derived.Test.YtehomfbehhlhmaaRkSolL
namespace Go.Proofs.Ytehomfbehhlhmaa
set_option maxRecDepth 100000
set_option linter.unusedVariables false
set_option linter.unusedSimpArgs false
open Go.RowKit

/-- what AllQuandles answers -/
def aqdF (x : Int) : List (List (List Int)) × Int := if 1 ≤ x ∧ x ≤ 4 then (((rowL x.toNat chkR).filter (lstB x.toNat)).filter (fun t => !!qdI x.toNat t), 0) else ([], 2)
theorem aqd_eq {n : Nat} (h1 : 1 ≤ n) (h4 : n ≤ 4) : srtL n (fun t => !true || qndOk n t) (rckN n) = ((rowL n chkR).filter (lstB n)).filter (fun t => !!qdI n t) := by
  have hr : rckN n = rowL n chkR := (rck_eq ⟨n, by omega⟩ h1).symm
  rw [hr, srtL_filter rowL_len (rowG_sorted (prm_sorted ⟨n, by omega⟩) _ _), List.filter_filter]
  refine List.filter_congr fun t ht => ?_
  obtain ⟨i, hi, rfl⟩ := List.mem_iff_getElem.1 ht
  have hq := (rowL_rwsP h1 h4 hi).sq
  rw [List.getD_eq_getElem?_getD, List.getElem?_eq_getElem hi] at hq
  simp only [Option.getD_some] at hq
  unfold qdI
  rw [inc_knk hq]
  simp
theorem aqdF_len (x : Int) : (aqdF x).1.length ≤ 1000000 ∧ totS (aqdF x).1 ≤ 1000000000 := by
  unfold aqdF
  split
  · rw [List.filter_filter]; exact lists_bd (by omega) (by omega) _ _
  · simp [totS]

set_option maxHeartbeats 4000000 in
theorem spec_Aqd_l (x : Int) (w : World) (hx : I64 x) :
    Calls Try.prog 53 #[.int .i64 x] w (RetLRk w (aqdF x).1 (aqdF x).2) := by
  have hin := fun w => l01In_any x 1 4 w
  by_cases h : 1 ≤ x ∧ x ≤ 4
  · obtain ⟨n, rfl⟩ : ∃ n : Nat, x = n := ⟨x.toNat, by omega⟩
    have h1 : 1 ≤ n := by omega
    have h4 : n ≤ 4 := by omega
    obtain ⟨K, HK⟩ : ∃ K, Hid (srtL n (fun t => !true || qndOk n t) (rckN n) = K) := ⟨_, rfl⟩
    have hq : aqdF n = (K, 0) := by unfold aqdF; rw [if_pos h, Int.toNat_natCast, ← aqd_eq h1 h4, HK.out]
    rw [hq]
    have hd : (decide ((1 : Int) ≤ n) && decide ((n : Int) ≤ 4)) = true := by simp; omega
    rw [hd] at hin
    have HIN := Lib.hid hin
    clear hin hd h hq
    go_enter Try.func53, Try.ntmps53
    go_wp2_with fail
    refine (HIN.out _).mono ?_
    rintro e w1 ⟨rfl, rfl⟩
    go_wp2_with fail
    refine (l19List_any n true _ h1 h4).mono ?_
    rintro e w2 ⟨a, k, c, us, rfl, ho, hb⟩
    rw [HK.out] at ho
    go_wp2
    go_ret2
    exact ⟨a, k, c, us, rfl, ho, hb⟩
  · have hq : aqdF x = ([], 2) := by unfold aqdF; rw [if_neg h]
    rw [hq]
    have hd : (decide ((1 : Int) ≤ x) && decide (x ≤ 4)) = false := by simp; omega
    rw [hd] at hin
    have HIN := Lib.hid hin
    clear hin hd hq
    go_enter Try.func53, Try.ntmps53
    go_wp2_with fail
    refine (HIN.out _).mono ?_
    rintro e w1 ⟨rfl, rfl⟩
    go_wp2
    go_ret2
    exact ⟨none, 0, 0, [], rfl, OwnRk.nil _ _, Below.refl _ _⟩

/-- the closure, as a test -/
theorem tstA_qd (n : Nat) (h1 : 1 ≤ n) (h4 : n ≤ 4) : TstA 118 #[] (fun t => !qdI n t) ((rowL n chkR).filter (lstB n)) := by
  refine ⟨fun args w => rfl, fun i hi w' va vn vc ht => ?_⟩
  have hm : ((rowL n chkR).filter (lstB n)).getD i [] ∈ rowL n chkR := by
    rw [List.getD_eq_getElem?_getD, List.getElem?_eq_getElem hi]
    exact (List.mem_filter.1 (List.getElem_mem hi)).1
  obtain ⟨j, hj, e⟩ := List.mem_iff_getElem.1 hm
  have hq := (rowL_rwsP h1 h4 hj).sq
  rw [List.getD_eq_getElem?_getD, List.getElem?_eq_getElem hj] at hq
  simp only [Option.getD_some] at hq
  rw [e] at hq
  obtain rfl : vn = n := by rw [ht.len, hq.1]
  exact allQuandles1_any va vn vc _ w' ht hq h1 (by omega)

set_option maxHeartbeats 4000000 in
theorem impl_Aqd_l (x : Int) (w : World) (hx : I64 x) :
    Calls Try.prog 54 #[.int .i64 x] w (RetLRk w (aqdF x).1 (aqdF x).2) := by
  have hin := fun w => within_any x 1 4 w
  by_cases h : 1 ≤ x ∧ x ≤ 4
  · obtain ⟨n, rfl⟩ : ∃ n : Nat, x = n := ⟨x.toNat, by omega⟩
    have h1 : 1 ≤ n := by omega
    have h4 : n ≤ 4 := by omega
    obtain ⟨K, HK⟩ : ∃ K, Hid (((rowL n chkR).filter (lstB n)).filter (fun t => !!qdI n t) = K) := ⟨_, rfl⟩
    have hq : aqdF n = (K, 0) := by unfold aqdF; rw [if_pos h, Int.toNat_natCast, HK.out]
    rw [hq]
    have hd : (decide ((1 : Int) ≤ n) && decide ((n : Int) ≤ 4)) = true := by simp; omega
    rw [hd] at hin
    have HIN := Lib.hid hin
    clear hin hd h hq
    go_enter Try.func54, Try.ntmps54
    go_wp2_with fail
    refine (HIN.out _).mono ?_
    rintro e w1 ⟨rfl, rfl⟩
    go_wp2_with fail
    refine (allRacks_any n _ h1 h4).mono ?_
    rintro e w2 ⟨a, k, c, us, rfl, ho, hb⟩
    have hkb : k ≤ 1000000000 := by
      have := ho.len
      have := (lists_bd h1 h4 chkR (lstB n)).1
      omega
    have HT := Lib.hid (tstA_qd n h1 h4)
    go_wp2_with fail
    refine (deleteRk_any _ #[] _ w.heap.size a k c us _ w2 ho hb.size hkb HT.out).mono ?_
    rintro e w3 ⟨a3, k3, c3, us3, rfl, ho3, hb3⟩
    rw [HK.out] at ho3
    have hb := hb.trans hb3
    have ho := ho3
    go_wp2
    go_ret2
    exact ⟨a3, k3, c3, us3, rfl, ho, hb⟩
  · have hq : aqdF x = ([], 2) := by unfold aqdF; rw [if_neg h]
    rw [hq]
    have hd : (decide ((1 : Int) ≤ x) && decide (x ≤ 4)) = false := by simp; omega
    rw [hd] at hin
    have HIN := Lib.hid hin
    clear hin hd hq
    go_enter Try.func54, Try.ntmps54
    go_wp2_with fail
    refine (HIN.out _).mono ?_
    rintro e w1 ⟨rfl, rfl⟩
    go_wp2
    go_ret2
    exact ⟨none, 0, 0, [], rfl, OwnRk.nil _ _, Below.refl _ _⟩
end Go.Proofs.Ytehomfbehhlhmaa
