/-
  Lists that pass as permutations are permutations; the numbers of an inverse are in range.
  No condition.
-/
import Derived.Test.YtdkpalllfekiiaaGreatBase2
import Derived.Test.YtdkpalllfekiiaaGreatBase3
namespace Go.Proofs.YtdkpalllfekiiaaGreat
set_option maxRecDepth 100000
set_option linter.unusedVariables false
set_option linter.unusedSimpArgs false

theorem permOk_isP {n : Nat} {p : List Int} (hl : p.length = n) (h : permOk p = true) : IsP n p := by
  obtain ⟨h1, h2⟩ := permOk_to h
  rw [hl] at h1 h2
  have hs : ∀ x, x < n → ∃ k, k < n ∧ p.getD k 0 = (x : Int) := fun x hx => by
    unfold permOk at h
    have := allN_get h (k := x) (by omega)
    rw [List.contains_iff_mem] at this
    obtain ⟨k, hk, e⟩ := List.getElem_of_mem this
    exact ⟨k, by omega, by rw [getD_at hk, e]⟩
  have hg : ∀ x, ∃ k, x < n → k < n ∧ p.getD k 0 = (x : Int) := fun x => by
    by_cases hx : x < n
    · obtain ⟨k, hk⟩ := hs x hx; exact ⟨k, fun _ => hk⟩
    · exact ⟨0, fun h => absurd h hx⟩
  obtain ⟨g, hg⟩ := Classical.axiomOfChoice hg
  refine ⟨fun i => (p.getD i 0).toNat, g, hl, fun i hi => ⟨?_, (hg i hi).1, ?_, ?_⟩, fun i hi => ?_⟩
  · have := h1 i hi
    show (p.getD i 0).toNat < n
    omega
  · show (p.getD (g i) 0).toNat = i
    rw [(hg i hi).2, Int.toNat_natCast]
  · have hr := h1 i hi
    have hx : (p.getD i 0).toNat < n := by omega
    refine h2 _ _ (hg _ hx).1 hi ?_
    rw [(hg _ hx).2]; omega
  · have := h1 i hi
    show p.getD i 0 = (((p.getD i 0).toNat : Nat) : Int)
    omega
theorem backF_rng {p : List Int} : ∀ i, i < p.length → 0 ≤ (backF p).getD i 0 ∧ (backF p).getD i 0 < p.length := by
  have key : ∀ k, k ≤ p.length → ∀ i, i < p.length → 0 ≤ (backK p k).getD i 0 ∧ (backK p k).getD i 0 < p.length := by
    intro k
    induction k with
    | zero =>
      intro _ i hi
      have : (backK p 0).getD i 0 = 0 := by simp [backK, List.getD_eq_getElem?_getD, hi]
      rw [this]; omega
    | succ k ih =>
      intro hk i hi
      rw [backK_succ, getD_setz _ _ _ _ (by rw [backK_len]; exact hi)]
      split
      · omega
      · exact ih (by omega) i hi
  exact key p.length (Nat.le_refl _)
end Go.Proofs.YtdkpalllfekiiaaGreat
