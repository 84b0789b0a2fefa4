/-
  Permutations as the programs hold them, and as the theory of normal forms takes them.
  No condition.
-/
import Derived.Test.YtdkpalllfekiiaaGreatGarL
import Derived.Test.YtdkpalllfekiiaaGreatBase2
import Derived.Test.YtdkpalllfekiiaaGreatBase
namespace Go.Proofs.YtdkpalllfekiiaaGreat
set_option maxRecDepth 100000
set_option linter.unusedVariables false
set_option linter.unusedSimpArgs false

/-- what undoes a permutation -/
def Pm.iv (p : Pm) : Pm := ⟨p.g, p.f, p.gf, p.fg⟩
theorem Fx.iv {n : Nat} {p : Pm} (h : Fx n p) : Fx n p.iv := fun i hi => h.g i hi
theorem toL_ext {n : Nat} {p : Pm} {xs : List Int} (hl : xs.length = n) (h : ∀ i, i < n → xs.getD i 0 = (p.f i : Int)) : xs = toL n p :=
  getD_ext (by rw [hl, toL_len]) fun i hi => by rw [h i (by omega), toL_get (by omega)]
theorem toL_isPf {n : Nat} {p : Pm} (h : Fx n p) : IsPf n (toL n p) p.f p.g :=
  ⟨toL_len n p, fun i hi => ⟨h.lt hi, h.glt hi, p.fg i, p.gf i⟩, fun i hi => toL_get hi⟩
theorem toL_isP {n : Nat} {p : Pm} (h : Fx n p) : IsP n (toL n p) := ⟨_, _, toL_isPf h⟩
theorem toL_mem {n : Nat} {p : Pm} (h : Fx n p) : ∀ x ∈ toL n p, 0 ≤ x ∧ x < n := (toL_isP h).mem
theorem isP_pm {n : Nat} {xs : List Int} (h : IsP n xs) : ∃ p, Fx n p ∧ xs = toL n p := by
  obtain ⟨f, g, hl, h1, h2⟩ := h
  refine ⟨⟨fun i => if i < n then f i else i, fun i => if i < n then g i else i, fun i => ?_, fun i => ?_⟩, fun i hi => ?_, toL_ext hl fun i hi => ?_⟩
  · by_cases hi : i < n
    · have := h1 i hi; simp only [if_pos hi]; rw [if_pos this.2.1]; exact this.2.2.1
    · simp only [if_neg hi]
  · by_cases hi : i < n
    · have := h1 i hi; simp only [if_pos hi]; rw [if_pos this.1]; exact this.2.2.2
    · simp only [if_neg hi]
  · show (if i < n then f i else i) = i
    rw [if_neg (by omega)]
  · show _ = (((if i < n then f i else i) : Nat) : Int)
    rw [if_pos hi]; exact h2 i hi
theorem th_toL {n : Nat} {p q : Pm} (hp : Fx n p) : thL (toL n p) (toL n q) = toL n (p.m q) := by
  refine toL_ext (by rw [thL_len, toL_len]) fun i hi => ?_
  have e : (toL n p)[i]'(by rw [toL_len]; exact hi) = (p.f i : Int) := by rw [← getD_at, toL_get hi]
  simp only [thL, List.getD_eq_getElem?_getD, List.getElem?_map, List.getElem?_eq_getElem (show i < (toL n p).length by rw [toL_len]; exact hi), Option.map_some, Option.getD_some, e, Int.toNat_natCast]
  have := toL_get (p := q) (hp.lt hi)
  rw [List.getD_eq_getElem?_getD] at this
  exact this
theorem back_toL {n : Nat} {p : Pm} (hp : Fx n p) : backF (toL n p) = toL n p.iv := by
  have h := toL_isPf hp
  refine toL_ext (by rw [backF_len, toL_len]) fun i hi => ?_
  unfold backF
  rw [toL_len, backK_get n _ _ _ h n (Nat.le_refl _) i hi, if_pos (hp.glt hi)]; rfl
theorem unit_toL (n : Nat) : unitL n = toL n Pm.one := toL_ext (unitL_len n) fun i hi => unitL_get n i hi
theorem swp_len (xs : List Int) (k : Nat) : (swp xs k).length = xs.length := by simp [swp]
theorem swp_toL {n k : Nat} {p : Pm} (hk : k + 1 < n) : swp (toL n p) k = toL n ((Pm.s k).m p) := by
  refine toL_ext (by rw [swp_len, toL_len]) fun i hi => ?_
  rw [swp_get _ _ _ (by rw [toL_len]; exact hk) (by rw [toL_len]; exact hi), toL_get (sig_lt k i n hk hi)]; rfl
theorem rev_toL (n : Nat) : (unitL n).reverse = toL n (Pm.tw n) := by
  refine toL_ext (by rw [List.length_reverse, unitL_len]) fun i hi => ?_
  have h1 : i < (unitL n).reverse.length := by rw [List.length_reverse, unitL_len]; exact hi
  rw [getD_at h1, List.getElem_reverse, ← getD_at]
  simp only [unitL_len]
  rw [unitL_get n _ (by omega)]
  show _ = ((twf n i : Nat) : Int)
  rw [twf_in hi]
theorem ltr_of {s x : Int} {n : Nat} (hn : s = n) (h : x ≠ 0 ∧ 1 - s ≤ x ∧ x ≤ s - 1) : Ltr n x := by
  refine ⟨h.1, ?_⟩
  unfold plN; split <;> omega
theorem plc_nat {n : Nat} {x : Int} (h : Ltr n x) : plc x = (plN x : Int) := by
  have := h.1
  unfold plc plN; split <;> omega
end Go.Proofs.YtdkpalllfekiiaaGreat
