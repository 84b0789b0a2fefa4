/-
  The cycles of a permutation of the numbers less than K, and the least common multiple of their lengths: no program in sight.
  No condition.
-/
import Derived.Test.YtfmcaflefiapoaaActL
namespace Go.Proofs.Ytfmcaflefiapoaa
set_option linter.unusedVariables false
set_option linter.unusedSimpArgs false

theorem nodup_bd : ∀ (n : Nat) (c : List Nat), c.Nodup → (∀ x ∈ c, x < n) → c.length ≤ n := by
  intro n
  induction n with
  | zero =>
    intro c _ h
    cases c with
    | nil => exact Nat.le_refl _
    | cons x c => exact absurd (h x List.mem_cons_self) (by omega)
  | succ n ih =>
    intro c hd h
    have h1 := ih (c.erase n) (hd.erase n) (fun x hx => by
      have h2 := (List.Nodup.mem_erase_iff hd).1 hx
      have := h x h2.2
      have := h2.1
      omega)
    by_cases hm : n ∈ c
    · rw [List.length_erase_of_mem hm] at h1; omega
    · rw [List.erase_of_not_mem hm] at h1; omega

/-- f, m times -/
def itf (f : Nat → Nat) : Nat → Nat → Nat
  | 0, x => x
  | m + 1, x => f (itf f m x)
structure PermN (f : Nat → Nat) (K : Nat) : Prop where
  lt : ∀ i, i < K → f i < K
  inj : ∀ i j, i < K → j < K → f i = f j → i = j
section
variable {f : Nat → Nat} {K x y : Nat}
theorem itf_add (a b : Nat) : itf f (a + b) x = itf f a (itf f b x) := by
  induction a with
  | zero => simp [itf]
  | succ a ih =>
    have : a + 1 + b = (a + b) + 1 := by omega
    rw [this]; simp only [itf]; rw [ih]
theorem PermN.it_lt (h : PermN f K) (hx : x < K) (m : Nat) : itf f m x < K := by
  induction m with
  | zero => exact hx
  | succ m ih => exact h.lt _ ih
theorem PermN.it_inj (h : PermN f K) (hx : x < K) (hy : y < K) (m : Nat) (e : itf f m x = itf f m y) : x = y := by
  induction m with
  | zero => exact e
  | succ m ih => exact ih (h.inj _ _ (h.it_lt hx m) (h.it_lt hy m) e)
theorem PermN.ret (h : PermN f K) (hx : x < K) : ∃ m, 1 ≤ m ∧ m ≤ K ∧ itf f m x = x := by
  refine Classical.byContradiction fun hne => ?_
  have hl := nodup_bd K ((List.range (K + 1)).map fun m => itf f m x) (by
    rw [List.nodup_iff_pairwise_ne, List.pairwise_map]
    refine List.Pairwise.imp_of_mem ?_ List.pairwise_lt_range
    intro a b ha hb hab e
    have hb2 := List.mem_range.1 hb
    refine hne ⟨b - a, by omega, by omega, ?_⟩
    have : b = a + (b - a) := by omega
    rw [this, itf_add] at e
    exact (h.it_inj hx (h.it_lt hx _) a e).symm) (fun y hy => by
    obtain ⟨m, _, rfl⟩ := List.mem_map.1 hy
    exact h.it_lt hx m)
  simp at hl
  omega
/-- how long the cycle is -/
def cyc (f : Nat → Nat) (K x : Nat) : Nat := ((List.range K).find? fun m => decide (itf f (m + 1) x = x)).getD 0 + 1
theorem PermN.cyc_spec (h : PermN f K) (hx : x < K) : 1 ≤ cyc f K x ∧ cyc f K x ≤ K ∧ itf f (cyc f K x) x = x ∧ ∀ m, 1 ≤ m → m < cyc f K x → itf f m x ≠ x := by
  unfold cyc
  cases hq : (List.range K).find? (fun m => decide (itf f (m + 1) x = x)) with
  | none =>
    obtain ⟨m, h1, h2, h3⟩ := h.ret hx
    rw [List.find?_eq_none] at hq
    have := hq (m - 1) (List.mem_range.2 (by omega))
    rw [show m - 1 + 1 = m by omega] at this
    exact absurd h3 (by simpa using this)
  | some m =>
    rw [List.find?_range_eq_some] at hq
    obtain ⟨h1, h2, h3⟩ := hq
    have h2 := List.mem_range.1 h2
    refine ⟨by simp, by simp; omega, by simpa using h1, fun k hk1 hk2 => ?_⟩
    simp at hk2
    have := h3 (k - 1) (by omega)
    rw [show k - 1 + 1 = k by omega] at this
    simpa using this
theorem PermN.cyc_eq (h : PermN f K) (hx : x < K) {L : Nat} (h1 : 1 ≤ L) (h2 : itf f L x = x) (h3 : ∀ m, 1 ≤ m → m < L → itf f m x ≠ x) : cyc f K x = L := by
  obtain ⟨a, b, c, d⟩ := h.cyc_spec hx
  by_cases e : cyc f K x < L
  · exact absurd c (h3 _ a e)
  · by_cases e2 : L < cyc f K x
    · exact absurd h2 (d _ h1 e2)
    · omega
theorem PermN.cyc_it (h : PermN f K) (hx : x < K) (j : Nat) : cyc f K (itf f j x) = cyc f K x := by
  obtain ⟨a, b, c, d⟩ := h.cyc_spec hx
  have hsw : ∀ m, itf f m (itf f j x) = itf f j (itf f m x) := fun m => by rw [← itf_add, ← itf_add, Nat.add_comm]
  refine h.cyc_eq (h.it_lt hx j) a (by rw [hsw, c]) fun m h1 h2 e => ?_
  rw [hsw] at e
  exact d m h1 h2 (h.it_inj (h.it_lt hx m) hx j e)

/-! ### the period -/
theorem lcm_go (p L : Nat) : p / Nat.gcd p L * L = Nat.lcm p L := by
  unfold Nat.lcm
  obtain ⟨k, hk⟩ := Nat.gcd_dvd_left p L
  by_cases h : Nat.gcd p L = 0
  · rw [h] at hk; rw [h]; simp
  · generalize Nat.gcd p L = g at *
    subst hk
    rw [Nat.mul_div_cancel_left _ (by omega), Nat.mul_assoc, Nat.mul_div_cancel_left _ (by omega)]
/-- the least common multiple of the lengths of the cycles of the first starts; none if it is greater than 1000000000 -/
def perK (f : Nat → Nat) (K : Nat) : Nat → Option Nat
  | 0 => some 1
  | i + 1 => match perK f K i with
    | none => none
    | some p => if Nat.lcm p (cyc f K i) ≤ 1000000000 then some (Nat.lcm p (cyc f K i)) else none
theorem perK_some {i p : Nat} (h : perK f K i = some p) : 1 ≤ p ∧ p ≤ 1000000000 ∧ ∀ j, j < i → cyc f K j ∣ p := by
  induction i generalizing p with
  | zero => simp only [perK, Option.some.injEq] at h; subst h; exact ⟨by omega, by omega, fun j hj => absurd hj (by omega)⟩
  | succ i ih =>
    simp only [perK] at h
    cases hq : perK f K i with
    | none => rw [hq] at h; cases h
    | some q =>
      rw [hq] at h
      simp only at h
      by_cases hl : Nat.lcm q (cyc f K i) ≤ 1000000000
      · rw [if_pos hl, Option.some.injEq] at h
        obtain ⟨a, b, c⟩ := ih hq
        subst h
        refine ⟨Nat.lcm_pos (by omega) (by unfold cyc; omega), hl, fun j hj => ?_⟩
        by_cases e : j = i
        · subst e; exact Nat.dvd_lcm_right _ _
        · exact Nat.dvd_trans (c j (by omega)) (Nat.dvd_lcm_left _ _)
      · rw [if_neg hl] at h; cases h
theorem perK_go {i p : Nat} (h : perK f K i = some p) (hl : Nat.lcm p (cyc f K i) ≤ 1000000000) : perK f K (i + 1) = some (Nat.lcm p (cyc f K i)) := by simp [perK, h, hl]
theorem perK_stop {i p : Nat} (h : perK f K i = some p) (hl : ¬ Nat.lcm p (cyc f K i) ≤ 1000000000) : perK f K (i + 1) = none := by simp [perK, h, hl]
theorem perK_none {i j : Nat} (h : perK f K i = none) (hij : i ≤ j) : perK f K j = none := by
  induction j with
  | zero => have : i = 0 := by omega
            subst this; exact h
  | succ j ih =>
    by_cases e : i = j + 1
    · subst e; exact h
    · simp [perK, ih (by omega)]
/-- the period, and the code -/
def perF (f : Nat → Nat) (K : Nat) : Int × Int := match perK f K K with | some p => ((p : Int), 0) | none => (0, 3)
theorem perF_some {p : Nat} (h : perK f K K = some p) : perF f K = ((p : Int), 0) := by unfold perF; rw [h]
theorem perF_none {i : Nat} (h : perK f K i = none) (hi : i ≤ K) : perF f K = (0, 3) := by unfold perF; rw [perK_none h hi]

/-! ### what is met -/
/-- y is on the cycle of one of the first i starts -/
def metB (f : Nat → Nat) (K i y : Nat) : Bool := (List.range i).any fun j => (List.range (cyc f K j)).any fun m => decide (itf f m j = y)
theorem metB_iff {i : Nat} : metB f K i y = true ↔ ∃ j, j < i ∧ ∃ m, m < cyc f K j ∧ itf f m j = y := by
  unfold metB
  rw [List.any_eq_true]
  constructor
  · rintro ⟨j, hj, h⟩
    rw [List.any_eq_true] at h
    obtain ⟨m, hm, e⟩ := h
    exact ⟨j, List.mem_range.1 hj, m, List.mem_range.1 hm, by simpa using e⟩
  · rintro ⟨j, hj, m, hm, e⟩
    exact ⟨j, List.mem_range.2 hj, by rw [List.any_eq_true]; exact ⟨m, List.mem_range.2 hm, by simpa using e⟩⟩
/-- any number of steps leads to one of the first -/
theorem PermN.red (h : PermN f K) (hx : x < K) (m : Nat) : ∃ k, k < cyc f K x ∧ itf f k x = itf f m x := by
  obtain ⟨a, b, c, d⟩ := h.cyc_spec hx
  induction m with
  | zero => exact ⟨0, by omega, rfl⟩
  | succ m ih =>
    obtain ⟨k, hk, e⟩ := ih
    by_cases hk2 : k + 1 < cyc f K x
    · exact ⟨k + 1, hk2, by show f _ = f _; rw [e]⟩
    · refine ⟨0, by omega, ?_⟩
      show x = f (itf f m x)
      rw [← e]
      have : k + 1 = cyc f K x := by omega
      rw [← this] at c
      exact c.symm
/-- what is met leads to what is met, and comes from it -/
theorem PermN.met_it (h : PermN f K) {i : Nat} (hi : i ≤ K) (hx : x < K) (m : Nat) : metB f K i (itf f m x) = metB f K i x := by
  rw [Bool.eq_iff_iff, metB_iff, metB_iff]
  constructor
  · rintro ⟨j, hj, k, hk, e⟩
    have hjK : j < K := by omega
    obtain ⟨a, b, c, d⟩ := h.cyc_spec hx
    -- go on from itf m x to x
    obtain ⟨q, hq, eq⟩ := h.red hx m
    have hback : itf f (cyc f K x - q) (itf f m x) = x := by
      rw [← eq, ← itf_add, show cyc f K x - q + q = cyc f K x by omega, c]
    rw [← e, ← itf_add] at hback
    obtain ⟨r, hr, er⟩ := h.red hjK (cyc f K x - q + k)
    exact ⟨j, hj, r, hr, er.trans hback⟩
  · rintro ⟨j, hj, k, hk, e⟩
    have hjK : j < K := by omega
    obtain ⟨r, hr, er⟩ := h.red hjK (m + k)
    exact ⟨j, hj, r, hr, by rw [er, itf_add, e]⟩
theorem PermN.met_dvd (h : PermN f K) {i p : Nat} (hi : i ≤ K) (hp : perK f K i = some p) (hm : metB f K i x = true) : cyc f K x ∣ p := by
  obtain ⟨j, hj, m, _, rfl⟩ := metB_iff.1 hm
  rw [h.cyc_it (by omega) m]
  exact (perK_some hp).2.2 j hj
theorem PermN.met_per (h : PermN f K) {i p : Nat} (hi : i < K) (hp : perK f K i = some p) (hm : metB f K i i = true) : perK f K (i + 1) = some p := by
  have hd := h.met_dvd (by omega) hp hm
  have e : Nat.lcm p (cyc f K i) = p := Nat.lcm_eq_left hd
  have := perK_some hp
  rw [perK_go hp (by rw [e]; omega), e]
/-- the marks, while the cycle of i is followed -/
def metS (f : Nat → Nat) (K i len : Nat) : List Bool := (List.range K).map fun y => metB f K i y || (List.range len).any fun m => decide (itf f m i = y)
def metL (f : Nat → Nat) (K i : Nat) : List Bool := (List.range K).map fun y => metB f K i y
theorem metS_len (i len : Nat) : (metS f K i len).length = K := by simp [metS]
theorem metL_zero : metL f K 0 = List.replicate K false := by
  unfold metL
  apply List.ext_getElem
  · simp
  · intro i h1 h2; simp [metB]
theorem metS_zero (i : Nat) : metS f K i 0 = metL f K i := by unfold metS metL; simp
theorem metS_get (i len : Nat) (hy : y < K) : (metS f K i len).getD y false = (metB f K i y || (List.range len).any fun m => decide (itf f m i = y)) := by
  simp [metS, List.getD_eq_getElem?_getD, List.getElem?_map, hy]
theorem PermN.metS_set (h : PermN f K) {i len : Nat} (hi : i < K) : (metS f K i len).set (itf f len i) true = metS f K i (len + 1) := by
  have hlt := h.it_lt hi len
  apply List.ext_getElem
  · simp [metS]
  · intro y h1 h2
    have hy : y < K := by rw [metS_len] at h2; exact h2
    rw [List.getElem_set]
    by_cases e : itf f len i = y
    · rw [if_pos e]
      simp [metS, List.range_succ, e]
    · rw [if_neg e]
      simp [metS, List.range_succ, e]
theorem PermN.metS_no (h : PermN f K) {i len : Nat} (hi : i < K) (hm : metB f K i i = false) (hl : len < cyc f K i) : (metS f K i len).getD (itf f len i) false = false := by
  rw [metS_get _ _ (h.it_lt hi len), h.met_it (by omega) hi, hm, Bool.false_or, List.any_eq_false]
  intro m hm2 e
  have hm2 := List.mem_range.1 hm2
  have e : itf f m i = itf f len i := by simpa using e
  have : len = m + (len - m) := by omega
  rw [this, itf_add] at e
  have := h.it_inj hi (h.it_lt hi _) m e
  exact (h.cyc_spec hi).2.2.2 (len - m) (by omega) (by omega) this.symm
theorem PermN.metS_yes (h : PermN f K) {i : Nat} (hi : i < K) : (metS f K i (cyc f K i)).getD i false = true := by
  rw [metS_get _ _ hi]
  have := (h.cyc_spec hi).1
  rw [Bool.or_eq_true]
  right
  rw [List.any_eq_true]
  exact ⟨0, List.mem_range.2 (by omega), by simp [itf]⟩
theorem PermN.metS_end (h : PermN f K) {i : Nat} (hi : i < K) : metS f K i (cyc f K i) = metL f K (i + 1) := by
  unfold metS metL
  apply List.map_congr_left
  intro y hy
  unfold metB
  rw [List.range_succ, List.any_append]
  simp
theorem PermN.metL_same (h : PermN f K) {i : Nat} (hi : i < K) (hm : metB f K i i = true) : metL f K (i + 1) = metL f K i := by
  rw [← h.metS_end hi]
  unfold metS metL
  apply List.map_congr_left
  intro y hy
  cases hq : (List.range (cyc f K i)).any (fun m => decide (itf f m i = y)) with
  | false => simp
  | true =>
    rw [List.any_eq_true] at hq
    obtain ⟨m, _, e⟩ := hq
    have e : itf f m i = y := by simpa using e
    rw [← e, h.met_it (by omega) hi, hm]; rfl
end
end Go.Proofs.Ytfmcaflefiapoaa
