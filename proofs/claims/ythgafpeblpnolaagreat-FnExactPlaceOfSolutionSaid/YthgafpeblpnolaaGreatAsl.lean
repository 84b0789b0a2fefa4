/-
  AllSolutions: what the reference's and the program's compute.
  No condition but bounds.
-/
import Derived.Test.YthgafpeblpnolaaGreatAslI
import Derived.Test.YthgafpeblpnolaaGreatSlrS
import Derived.Test.YthgafpeblpnolaaGreatULSo
namespace Go.Proofs.YthgafpeblpnolaaGreat
set_option maxRecDepth 100000
set_option linter.unusedVariables false
set_option linter.unusedSimpArgs false
open Go.RowKit

/-- what AllSolutions answers -/
def aslF (x : Int) : List T2 × Int := if 1 ≤ x ∧ x ≤ 3 then (slrL x.toNat, 0) else ([], 2)
theorem slrL_mem {n : Nat} (h1 : 1 ≤ n) (h3 : n ≤ 3) {s : T2} (hs : s ∈ slrL n) : s ∈ solL n :=
  (List.mem_filter.1 ((slrL_map (solL_lens h1 h3)).2.1.mem_iff.1 hs)).1
theorem slrL_bd {n : Nat} (h1 : 1 ≤ n) (h3 : n ≤ 3) : (slrL n).length ≤ 1000000 := by
  have h := (slrL_map (solL_lens h1 h3)).2.1.length_eq
  have h2 : (lstSo n).length ≤ (solL n).length := List.length_filter_le _ _
  have := slsL_bd h1 h3
  omega
theorem aslF_len (x : Int) : (aslF x).1.length ≤ 1000000 ∧ totP (aslF x).1 ≤ 1000000000 := by
  unfold aslF
  split
  · rename_i h
    have h1 : 1 ≤ x.toNat := by omega
    have h3 : x.toNat ≤ 3 := by omega
    refine ⟨slrL_bd h1 h3, ?_⟩
    have hb := slrL_bd h1 h3
    have hs : ∀ t, Sq x.toNat t → tot t ≤ 9 := fun t ht => by
      have := tot_bd (m := 3) (R := t) (fun r hr => by
        obtain ⟨i, hi, rfl⟩ := List.getElem_of_mem hr
        have := ht.row (x := i) (by rw [← ht.len]; exact hi)
        rw [List.getD_eq_getElem?_getD, List.getElem?_eq_getElem hi, Option.getD_some] at this
        omega)
      have := ht.len
      omega
    have := totP_bd (m := 18) (L := slrL x.toNat) (fun s h => by
      have hq := solL_sq h1 h3 s (slrL_mem h1 h3 h)
      have h1 := hs _ hq.1
      have h2 := hs _ hq.2
      show tot s.1 + tot s.2 ≤ 18
      omega)
    show totP (slrL x.toNat) ≤ 1000000000
    omega
  · simp [totP]

set_option maxHeartbeats 4000000 in
theorem spec_Asl_l (x : Int) (w : World) (hx : I64 x) :
    Calls Tryz.prog 29 #[.int .i64 x] w (RetLSo w (aslF x).1 (aslF x).2) := by
  have hin := fun w => l01In_any x 1 3 w
  by_cases h : 1 ≤ x ∧ x ≤ 3
  · obtain ⟨n, rfl⟩ : ∃ n : Nat, x = n := ⟨x.toNat, by omega⟩
    have h1 : 1 ≤ n := by omega
    have h3 : n ≤ 3 := by omega
    obtain ⟨K, HK⟩ : ∃ K, Hid (slrL n = K) := ⟨_, Lib.hid rfl⟩
    have hq : aslF n = (K, 0) := by unfold aslF; rw [if_pos h, Int.toNat_natCast, HK.out]
    rw [hq]
    have hd : (decide ((1 : Int) ≤ n) && decide ((n : Int) ≤ 3)) = true := by simp; omega
    rw [hd] at hin
    have HIN := Lib.hid hin
    clear hin hd h hq
    go_enter Tryz.func29, Tryz.ntmps29
    go_wp2_with fail
    refine (HIN.out _).mono ?_
    rintro e w1 ⟨rfl, rfl⟩
    go_wp2_with fail
    refine (l19Sorted_any n _ h1 h3).mono ?_
    rintro e w2 ⟨a, k, c, us, rfl, ho, hb⟩
    rw [HK.out] at ho
    go_wp2
    go_ret2
    exact ⟨a, k, c, us, rfl, ho, hb⟩
  · have hq : aslF x = ([], 2) := by unfold aslF; rw [if_neg h]
    rw [hq]
    have hd : (decide ((1 : Int) ≤ x) && decide (x ≤ 3)) = false := by simp; omega
    rw [hd] at hin
    have HIN := Lib.hid hin
    clear hin hd hq
    go_enter Tryz.func29, Tryz.ntmps29
    go_wp2_with fail
    refine (HIN.out _).mono ?_
    rintro e w1 ⟨rfl, rfl⟩
    go_wp2
    go_ret2
    exact ⟨none, 0, 0, [], rfl, OwnSo.nil _ _, Below.refl _ _⟩

set_option maxHeartbeats 4000000 in
theorem impl_Asl_l (x : Int) (w : World) (hx : I64 x) :
    Calls Tryz.prog 28 #[.int .i64 x] w (RetLSo w (aslF x).1 (aslF x).2) := by
  have hin := fun w => within_any x 1 3 w
  by_cases h : 1 ≤ x ∧ x ≤ 3
  · obtain ⟨n, rfl⟩ : ∃ n : Nat, x = n := ⟨x.toNat, by omega⟩
    have h1 : 1 ≤ n := by omega
    have h3 : n ≤ 3 := by omega
    obtain ⟨K, HK⟩ : ∃ K, Hid (slrL n = K) := ⟨_, Lib.hid rfl⟩
    have hq : aslF n = (K, 0) := by unfold aslF; rw [if_pos h, Int.toNat_natCast, HK.out]
    rw [hq]
    have hd : (decide ((1 : Int) ≤ n) && decide ((n : Int) ≤ 3)) = true := by simp; omega
    rw [hd] at hin
    have HIN := Lib.hid hin
    clear hin hd h hq
    go_enter Tryz.func28, Tryz.ntmps28
    go_wp2_with fail
    refine (HIN.out _).mono ?_
    rintro e w1 ⟨rfl, rfl⟩
    go_wp2_with fail
    refine (allSolutions_any n _ h1 h3).mono ?_
    rintro e w2 ⟨a, k, c, us, ts, rfl, ho, hp, hs, hb⟩
    have ht : ts = slrL n := slrL_eq (solL_lens h1 h3) hp hs
    rw [ht, HK.out] at ho
    clear ht hp hs
    go_wp2
    go_ret2
    exact ⟨a, k, c, us, rfl, ho, hb⟩
  · have hq : aslF x = ([], 2) := by unfold aslF; rw [if_neg h]
    rw [hq]
    have hd : (decide ((1 : Int) ≤ x) && decide (x ≤ 3)) = false := by simp; omega
    rw [hd] at hin
    have HIN := Lib.hid hin
    clear hin hd hq
    go_enter Tryz.func28, Tryz.ntmps28
    go_wp2_with fail
    refine (HIN.out _).mono ?_
    rintro e w1 ⟨rfl, rfl⟩
    go_wp2
    go_ret2
    exact ⟨none, 0, 0, [], rfl, OwnSo.nil _ _, Below.refl _ _⟩
end Go.Proofs.YthgafpeblpnolaaGreat
