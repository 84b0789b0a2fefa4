/-
  WeightBasis, both sides, and the size of what it answers.
  No condition but the bounds of lengths.
-/
import Derived.Test.YtmncpnpjhchliaaWbI
import Derived.Test.YtmncpnpjhchliaaWbS
namespace Go.Proofs.Ytmncpnpjhchliaa
set_option maxRecDepth 100000
set_option linter.unusedVariables false
set_option linter.unusedSimpArgs false

theorem tot_allW {s : Nat} : ∀ {R : List (List Int)}, (∀ r, r ∈ R → r.length = s) → tot R = R.length * s := by
  intro R
  induction R with
  | nil => intro _; simp [tot]
  | cons r R ih =>
    intro h
    have h1 := ih fun q hq => h q (List.mem_cons_of_mem _ hq)
    have h2 := h r (by simp)
    unfold tot at h1 ⊢
    rw [List.map_cons, List.sum_cons, h1, h2, List.length_cons, Nat.succ_mul]; omega
theorem Wb_len (f g : List (List Int)) (p : Int) : tot (wbF f g p).1 ≤ 1000000 := by
  cases h : isSol f g with
  | false => rw [wbF_1 h]; simp [tot]
  | true =>
    by_cases h1 : isPr p
    · by_cases h2 : f.length ≤ 8
      · rw [wbF_0 h h1 h2]
        obtain ⟨n1, _, sf, sg⟩ := isSol_sq h
        have p2 : 2 ≤ p ∧ p ≤ 7 := by unfold isPr at h1; omega
        have hv := kerL_vec (p := p) (N := f.length * f.length) (R := echL p (invF p) (f.length * f.length) (rowsW f g f.length p)) (by omega) (f.length * f.length)
        have hr := ech_rdc h1 hv
        have hl := ech_len p (invF p) (f.length * f.length) (kerL p (f.length * f.length) (echL p (invF p) (f.length * f.length) (rowsW f g f.length p)) (f.length * f.length))
        show tot (wbL f g f.length p) ≤ _
        unfold wbL
        rw [tot_allW fun r q => (hr r q).1.1]
        have h3 : f.length * f.length ≤ 8 * 8 := Nat.mul_le_mul h2 h2
        have h4 := Nat.mul_le_mul (Nat.le_trans hl h3) h3
        omega
      · rw [wbF_3 h h1 h2]; simp [tot]
    · rw [wbF_2 h h1]; simp [tot]
end Go.Proofs.Ytmncpnpjhchliaa
