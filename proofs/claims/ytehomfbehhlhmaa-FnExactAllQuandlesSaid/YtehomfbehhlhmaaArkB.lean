/-
  The lists' sizes are small.
  No condition.
-/
import Derived.Test.YtehomfbehhlhmaaLstI
import Derived.Test.YtehomfbehhlhmaaBase
namespace Go.Proofs.Ytehomfbehhlhmaa
set_option maxRecDepth 100000
set_option linter.unusedVariables false
set_option linter.unusedSimpArgs false
open Go.RowKit

theorem lists_bd {n : Nat} (h1 : 1 ≤ n) (h4 : n ≤ 4) (fits p : List (List Int) → Bool) : ((rowL n fits).filter p).length ≤ 1000000 ∧ totS ((rowL n fits).filter p) ≤ 1000000000 := by
  have e0 : ((rowL n fits).filter p).length ≤ 1000000 := by
    have h := rowG_bd (prmL n) fits n []
    have e1 := prm_bd h1 h4
    have e2 : (prmL n).length ^ n ≤ 24 ^ n := Nat.pow_le_pow_left e1.1 n
    have e3 : (24 : Nat) ^ n ≤ 24 ^ 4 := Nat.pow_le_pow_right (by omega) h4
    have e4 : (24 : Nat) ^ 4 ≤ 1000000 := by decide
    have e5 : ((rowL n fits).filter p).length ≤ (rowL n fits).length := List.length_filter_le _ _
    unfold rowL at e5 ⊢
    omega
  refine ⟨e0, ?_⟩
  have ht : ∀ (L : List (List (List Int))), (∀ t ∈ L, tot t ≤ 100) → totS L ≤ 100 * L.length := by
    intro L
    induction L with
    | nil => intro _; simp [totS]
    | cons t L ih =>
      intro h
      rw [totS_cons, List.length_cons]
      have := h t (by simp)
      have := ih fun s hs => h s (by simp [hs])
      omega
  have hr : ∀ (R : List (List Int)), (∀ r ∈ R, r.length ≤ 4) → tot R ≤ 4 * R.length := by
    intro R
    induction R with
    | nil => intro _; simp [tot]
    | cons r R ih =>
      intro h
      have e : tot (r :: R) = r.length + tot R := by simp only [tot, List.map_cons, List.sum_cons]
      rw [e, List.length_cons]
      have := h r (by simp)
      have := ih fun s hs => h s (by simp [hs])
      omega
  have := ht ((rowL n fits).filter p) (fun t h => by
    have hm := (List.mem_filter.1 h).1
    obtain ⟨r, e, hl, hq⟩ := rowG_mem _ _ _ hm
    rw [List.nil_append] at e
    subst e
    have hw := rows_rwsP h1 h4 hl hq
    have := hr t (fun s hs => by
      obtain ⟨i, hi, rfl⟩ := List.getElem_of_mem hs
      have := (hw.2 i (by omega)).len
      rw [List.getD_eq_getElem?_getD, List.getElem?_eq_getElem hi, Option.getD_some] at this
      omega)
    omega)
  omega
end Go.Proofs.Ytehomfbehhlhmaa
