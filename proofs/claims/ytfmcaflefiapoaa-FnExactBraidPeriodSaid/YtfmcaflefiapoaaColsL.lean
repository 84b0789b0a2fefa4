/-
  The tuples that a braid leads to themselves, in plain lists.
  No condition.
-/
import Derived.Test.YtfmcaflefiapoaaDigL
import Derived.Test.YtfmcaflefiapoaaBase
namespace Go.Proofs.Ytfmcaflefiapoaa
set_option linter.unusedVariables false
set_option linter.unusedSimpArgs false

/-- the tuple with the number N is led to itself -/
def colAt (n s : Nat) (f g : List (List Int)) (xs : List Int) (N : Nat) : Bool := decide (actL n f g xs (digL n s N) = digL n s N)
/-- the colourings among the first k tuples -/
def colsK (n s : Nat) (f g : List (List Int)) (xs : List Int) (k : Nat) : List (List Int) := ((List.range k).filter (colAt n s f g xs)).map (digL n s)
def colsL (n s : Nat) (f g : List (List Int)) (xs : List Int) : List (List Int) := colsK n s f g xs (n ^ s)
section
variable {n s : Nat} {f g : List (List Int)} {xs : List Int} {k : Nat}
theorem colsK_zero : colsK n s f g xs 0 = [] := rfl
theorem colsK_yes (h : colAt n s f g xs k = true) : colsK n s f g xs (k + 1) = colsK n s f g xs k ++ [digL n s k] := by
  unfold colsK; rw [List.range_succ, List.filter_append, List.map_append]; simp [h]
theorem colsK_no (h : colAt n s f g xs k = false) : colsK n s f g xs (k + 1) = colsK n s f g xs k := by
  unfold colsK; rw [List.range_succ, List.filter_append, List.map_append]; simp [h]
theorem colsK_len : (colsK n s f g xs k).length ≤ k := by
  unfold colsK
  rw [List.length_map]
  exact Nat.le_trans (List.length_filter_le _ _) (by simp)
theorem colsK_mem {l : List Int} (h : l ∈ colsK n s f g xs k) : ∃ N, N < k ∧ l = digL n s N := by
  unfold colsK at h
  rw [List.mem_map] at h
  obtain ⟨N, hN, e⟩ := h
  exact ⟨N, List.mem_range.1 ((List.mem_filter.1 hN).1), e.symm⟩
theorem tot_all {xss : List (List Int)} {s : Nat} (h : ∀ l ∈ xss, l.length = s) : tot xss = xss.length * s := by
  induction xss with
  | nil => simp [tot]
  | cons x r ih =>
    have e := ih (fun l hl => h l (List.mem_cons_of_mem _ hl))
    have e2 := h x (List.mem_cons_self ..)
    unfold tot at *
    simp only [List.map_cons, List.sum_cons, List.length_cons, e, e2]
    rw [Nat.add_mul, Nat.one_mul]; omega
theorem colsK_tot : tot (colsK n s f g xs k) ≤ k * s := by
  rw [tot_all (s := s) (fun l hl => by obtain ⟨N, _, e⟩ := colsK_mem hl; rw [e, digL_len])]
  exact Nat.mul_le_mul_right s colsK_len
end

/-- how many tuples there are, or 0 if there are too many -/
theorem pow_step {n k : Nat} : n ^ k * n = n ^ (k + 1) := (Nat.pow_succ ..).symm
theorem pow_mono {n k s : Nat} (hn : 1 ≤ n) (h : k ≤ s) : n ^ k ≤ n ^ s := Nat.pow_le_pow_right hn h

end Go.Proofs.Ytfmcaflefiapoaa
