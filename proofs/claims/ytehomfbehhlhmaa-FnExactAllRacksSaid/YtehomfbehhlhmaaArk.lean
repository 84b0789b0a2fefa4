/-
  AllRacks: what the reference's and the program's compute.
  No condition but bounds.
-/
import Derived.Test.YtehomfbehhlhmaaOrd
import Derived.Test.YtehomfbehhlhmaaULRk
namespace Go.Proofs.Ytehomfbehhlhmaa
set_option maxRecDepth 100000
set_option linter.unusedVariables false
set_option linter.unusedSimpArgs false
open Go.RowKit

/-- what AllRacks answers -/
def arkF (x : Int) : List (List (List Int)) × Int := if 1 ≤ x ∧ x ≤ 4 then ((rowL x.toNat chkR).filter (lstB x.toNat), 0) else ([], 2)
theorem ark_eq {n : Nat} (h1 : 1 ≤ n) (h4 : n ≤ 4) : srtL n (fun t => !false || qndOk n t) (rckN n) = (rowL n chkR).filter (lstB n) := by
  have hr : rckN n = rowL n chkR := (rck_eq ⟨n, by omega⟩ h1).symm
  rw [hr, srtL_filter rowL_len (rowG_sorted (prm_sorted ⟨n, by omega⟩) _ _)]
  exact List.filter_congr fun t _ => by simp
theorem lists_bd {n : Nat} (h1 : 1 ≤ n) (h4 : n ≤ 4) (fits p : List (List Int) → Bool) : ((rowL n fits).filter p).length ≤ 1000000 ∧ totS ((rowL n fits).filter p) ≤ 1000000000 := by
  have e0 : ((rowL n fits).filter p).length ≤ 1000000 := by
    have h := rowG_bd (prmL n) fits n []
    have e1 := prm_bd h1 h4
    have e2 : (prmL n).length ^ n ≤ 24 ^ n := Nat.pow_le_pow_left e1.1 n
    have e3 : (24 : Nat) ^ n ≤ 24 ^ 4 := Nat.pow_le_pow_right (by omega) h4
    have e4 : (24 : Nat) ^ 4 ≤ 1000000 := by decide
    have e5 : ((rowL n fits).filter p).length ≤ (rowL n fits).length := List.length_filter_le _ _
    unfold rowL at e5 ⊢
    omega
  refine ⟨e0, ?_⟩
  have ht : ∀ (L : List (List (List Int))), (∀ t ∈ L, tot t ≤ 100) → totS L ≤ 100 * L.length := by
    intro L
    induction L with
    | nil => intro _; simp [totS]
    | cons t L ih =>
      intro h
      rw [totS_cons, List.length_cons]
      have := h t (by simp)
      have := ih fun s hs => h s (by simp [hs])
      omega
  have hr : ∀ (R : List (List Int)), (∀ r ∈ R, r.length ≤ 4) → tot R ≤ 4 * R.length := by
    intro R
    induction R with
    | nil => intro _; simp [tot]
    | cons r R ih =>
      intro h
      have e : tot (r :: R) = r.length + tot R := by simp only [tot, List.map_cons, List.sum_cons]
      rw [e, List.length_cons]
      have := h r (by simp)
      have := ih fun s hs => h s (by simp [hs])
      omega
  have := ht ((rowL n fits).filter p) (fun t h => by
    have hm := (List.mem_filter.1 h).1
    obtain ⟨r, e, hl, hq⟩ := rowG_mem _ _ _ hm
    rw [List.nil_append] at e
    subst e
    have hw := rows_rwsP h1 h4 hl hq
    have := hr t (fun s hs => by
      obtain ⟨i, hi, rfl⟩ := List.getElem_of_mem hs
      have := (hw.2 i (by omega)).len
      rw [List.getD_eq_getElem?_getD, List.getElem?_eq_getElem hi, Option.getD_some] at this
      omega)
    omega)
  omega
theorem arkF_len (x : Int) : (arkF x).1.length ≤ 1000000 ∧ totS (arkF x).1 ≤ 1000000000 := by
  unfold arkF
  split
  · exact lists_bd (by omega) (by omega) _ _
  · simp [totS]

set_option maxHeartbeats 4000000 in
theorem spec_Ark_l (x : Int) (w : World) (hx : I64 x) :
    Calls Try.prog 48 #[.int .i64 x] w (RetLRk w (arkF x).1 (arkF x).2) := by
  have hin := fun w => l01In_any x 1 4 w
  by_cases h : 1 ≤ x ∧ x ≤ 4
  · obtain ⟨n, rfl⟩ : ∃ n : Nat, x = n := ⟨x.toNat, by omega⟩
    have h1 : 1 ≤ n := by omega
    have h4 : n ≤ 4 := by omega
    obtain ⟨K, HK⟩ : ∃ K, Hid (srtL n (fun t => !false || qndOk n t) (rckN n) = K) := ⟨_, rfl⟩
    have hq : arkF n = (K, 0) := by unfold arkF; rw [if_pos h, Int.toNat_natCast, ← ark_eq h1 h4, HK.out]
    rw [hq]
    have hd : (decide ((1 : Int) ≤ n) && decide ((n : Int) ≤ 4)) = true := by simp; omega
    rw [hd] at hin
    have HIN := Lib.hid hin
    clear hin hd h hq
    go_enter Try.func48, Try.ntmps48
    go_wp2_with fail
    refine (HIN.out _).mono ?_
    rintro e w1 ⟨rfl, rfl⟩
    go_wp2_with fail
    refine (l19List_any n false _ h1 h4).mono ?_
    rintro e w2 ⟨a, k, c, us, rfl, ho, hb⟩
    rw [HK.out] at ho
    go_wp2
    go_ret2
    exact ⟨a, k, c, us, rfl, ho, hb⟩
  · have hq : arkF x = ([], 2) := by unfold arkF; rw [if_neg h]
    rw [hq]
    have hd : (decide ((1 : Int) ≤ x) && decide (x ≤ 4)) = false := by simp; omega
    rw [hd] at hin
    have HIN := Lib.hid hin
    clear hin hd hq
    go_enter Try.func48, Try.ntmps48
    go_wp2_with fail
    refine (HIN.out _).mono ?_
    rintro e w1 ⟨rfl, rfl⟩
    go_wp2
    go_ret2
    exact ⟨none, 0, 0, [], rfl, OwnRk.nil _ _, Below.refl _ _⟩

set_option maxHeartbeats 4000000 in
theorem impl_Ark_l (x : Int) (w : World) (hx : I64 x) :
    Calls Try.prog 49 #[.int .i64 x] w (RetLRk w (arkF x).1 (arkF x).2) := by
  have hin := fun w => within_any x 1 4 w
  by_cases h : 1 ≤ x ∧ x ≤ 4
  · obtain ⟨n, rfl⟩ : ∃ n : Nat, x = n := ⟨x.toNat, by omega⟩
    have h1 : 1 ≤ n := by omega
    have h4 : n ≤ 4 := by omega
    obtain ⟨K, HK⟩ : ∃ K, Hid ((rowL n chkR).filter (lstB n) = K) := ⟨_, rfl⟩
    have hq : arkF n = (K, 0) := by unfold arkF; rw [if_pos h, Int.toNat_natCast, HK.out]
    rw [hq]
    have hd : (decide ((1 : Int) ≤ n) && decide ((n : Int) ≤ 4)) = true := by simp; omega
    rw [hd] at hin
    have HIN := Lib.hid hin
    clear hin hd h hq
    go_enter Try.func49, Try.ntmps49
    go_wp2_with fail
    refine (HIN.out _).mono ?_
    rintro e w1 ⟨rfl, rfl⟩
    go_wp2_with fail
    refine (allRacks_any n _ h1 h4).mono ?_
    rintro e w2 ⟨a, k, c, us, rfl, ho, hb⟩
    rw [HK.out] at ho
    go_wp2
    go_ret2
    exact ⟨a, k, c, us, rfl, ho, hb⟩
  · have hq : arkF x = ([], 2) := by unfold arkF; rw [if_neg h]
    rw [hq]
    have hd : (decide ((1 : Int) ≤ x) && decide (x ≤ 4)) = false := by simp; omega
    rw [hd] at hin
    have HIN := Lib.hid hin
    clear hin hd hq
    go_enter Try.func49, Try.ntmps49
    go_wp2_with fail
    refine (HIN.out _).mono ?_
    rintro e w1 ⟨rfl, rfl⟩
    go_wp2
    go_ret2
    exact ⟨none, 0, 0, [], rfl, OwnRk.nil _ _, Below.refl _ _⟩
end Go.Proofs.Ytehomfbehhlhmaa
