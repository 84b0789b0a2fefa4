/-
  Permutations and racks, in plain lists.
  No condition.
-/
import Derived.Test.YtgnaeeifnhgobaaActL
namespace Go.Proofs.Ytgnaeeifnhgobaa
set_option linter.unusedVariables false
set_option linter.unusedSimpArgs false

/-- each of the numbers less than the length is in the list -/
def permOk (p : List Int) : Bool := allN p.length fun x : Nat => p.contains (x : Int)
/-- the first k numbers are less than the length, and all different -/
def permTo (p : List Int) (k : Nat) : Prop := (∀ i, i < k → 0 ≤ p.getD i 0 ∧ p.getD i 0 < p.length) ∧ ∀ i j, i < k → j < k → p.getD i 0 = p.getD j 0 → i = j
theorem getD_mem {p : List Int} {i : Nat} (h : i < p.length) : p.getD i 0 ∈ p := by
  rw [List.getD_eq_getElem?_getD, List.getElem?_eq_getElem h]; exact List.getElem_mem h
theorem permTo_ok {p : List Int} (h : permTo p p.length) : permOk p = true := by
  unfold permOk allN
  rw [List.all_eq_true]
  intro x hx
  have hx := List.mem_range.1 hx
  obtain ⟨i, hi, e⟩ := inj_surj p.length (fun i => (p.getD i 0).toNat) (fun i hi => by have := h.1 i hi; show (p.getD i 0).toNat < _; omega)
    (fun i j hi hj e => h.2 i j hi hj (by have a := h.1 i hi; have b := h.1 j hj; have e : (p.getD i 0).toNat = (p.getD j 0).toNat := e; omega)) x hx
  have a := h.1 i hi
  have e : (p.getD i 0).toNat = x := e
  have e2 : p.getD i 0 = (x : Int) := by omega
  rw [List.contains_iff_mem, ← e2]
  exact getD_mem hi
theorem permOk_to {p : List Int} (h : permOk p = true) : permTo p p.length := by
  have hm : ∀ x, x < p.length → ∃ i, i < p.length ∧ p.getD i 0 = (x : Int) := by
    intro x hx
    have := allN_get h hx
    rw [List.contains_iff_mem] at this
    obtain ⟨i, hi, e⟩ := List.getElem_of_mem this
    exact ⟨i, hi, by rw [List.getD_eq_getElem?_getD, List.getElem?_eq_getElem hi]; simpa using e⟩
  have H : ∀ x, ∃ i, x < p.length → i < p.length ∧ p.getD i 0 = (x : Int) := by
    intro x
    by_cases hx : x < p.length
    · obtain ⟨i, hi⟩ := hm x hx; exact ⟨i, fun _ => hi⟩
    · exact ⟨0, fun h => absurd h hx⟩
  obtain ⟨g, hg⟩ := Classical.axiomOfChoice H
  have hs := inj_surj p.length g (fun x hx => (hg x hx).1) (fun x y hx hy e => by have a := (hg x hx).2; have b := (hg y hy).2; rw [e] at a; omega)
  have hv : ∀ i, i < p.length → ∃ x, x < p.length ∧ g x = i ∧ p.getD i 0 = (x : Int) := by
    intro i hi
    obtain ⟨x, hx, e⟩ := hs i hi
    have := (hg x hx).2
    rw [e] at this
    exact ⟨x, hx, e, this⟩
  refine ⟨fun i hi => ?_, fun i j hi hj e => ?_⟩
  · obtain ⟨x, hx, _, e⟩ := hv i hi; omega
  · obtain ⟨x, hx, e1, e2⟩ := hv i hi
    obtain ⟨y, hy, e3, e4⟩ := hv j hj
    have : x = y := by omega
    subst this; omega
theorem permOk_out {p : List Int} {k : Nat} (hk : k < p.length) (h : ¬ (0 ≤ p.getD k 0 ∧ p.getD k 0 < p.length)) : permOk p = false := by
  cases hp : permOk p with
  | false => rfl
  | true => exact absurd ((permOk_to hp).1 k hk) h
theorem permOk_twice {p : List Int} {k i : Nat} (hk : k < p.length) (hi : i < k) (h : p.getD i 0 = p.getD k 0) : permOk p = false := by
  cases hp : permOk p with
  | false => rfl
  | true => have := (permOk_to hp).2 i k (by omega) hk h; omega
theorem permTo_succ {p : List Int} {k : Nat} (h : permTo p k) (h1 : 0 ≤ p.getD k 0 ∧ p.getD k 0 < p.length) (h2 : ∀ i, i < k → p.getD i 0 ≠ p.getD k 0) : permTo p (k + 1) := by
  refine ⟨fun i hi => ?_, fun i j hi hj e => ?_⟩
  · by_cases e : i = k
    · subst e; exact h1
    · exact h.1 i (by omega)
  · by_cases e1 : i = k
    · by_cases e2 : j = k
      · omega
      · subst e1; exact absurd e.symm (h2 j (by omega))
    · by_cases e2 : j = k
      · subst e2; exact absurd e (h2 i (by omega))
      · exact h.2 i j (by omega) (by omega) e
/-- what has been seen: the truths at the numbers less than n -/
def seenL (p : List Int) (n k : Nat) : List Bool := (List.range n).map fun x : Nat => (p.take k).contains (x : Int)
theorem seenL_len (p : List Int) (n k : Nat) : (seenL p n k).length = n := by simp [seenL]
theorem seenL_zero (p : List Int) (n : Nat) : seenL p n 0 = List.replicate n false := by
  apply List.ext_getElem
  · simp [seenL]
  · intro i h1 h2; simp [seenL]
theorem seenL_get (p : List Int) (n k x : Nat) (hx : x < n) : (seenL p n k).getD x false = (p.take k).contains (x : Int) := by
  simp [seenL, List.getD_eq_getElem?_getD, List.getElem?_map, hx]
theorem seenL_succ (p : List Int) (n k x : Nat) (hk : k < p.length) (hx : x < n) (h : p[k] = (x : Int)) : (seenL p n k).set x true = seenL p n (k + 1) := by
  apply List.ext_getElem
  · simp [seenL]
  · intro i h1 h2
    have hi : i < n := by simpa [seenL] using h2
    rw [List.getElem_set]
    simp only [seenL, List.getElem_map, List.getElem_range]
    rw [List.take_succ_eq_append_getElem hk]
    by_cases e : x = i
    · subst e; simp [h]
    · rw [if_neg e]
      have : ¬ (i : Int) = p[k] := by rw [h]; omega
      rw [Bool.eq_iff_iff, List.contains_iff_mem, List.contains_iff_mem, List.mem_append, List.mem_singleton]
      exact ⟨Or.inl, fun h => h.elim id (fun h => absurd h this)⟩
theorem seen_mem {p : List Int} {k : Nat} {x : Int} (h : (p.take k).contains x = true) (hk : k ≤ p.length) : ∃ i, i < k ∧ p.getD i 0 = x := by
  rw [List.contains_iff_mem] at h
  obtain ⟨i, hi, e⟩ := List.getElem_of_mem h
  rw [List.length_take] at hi
  refine ⟨i, by omega, ?_⟩
  rw [List.getElem_take] at e
  rw [List.getD_eq_getElem?_getD, List.getElem?_eq_getElem (by omega)]
  simpa using e
theorem not_seen {p : List Int} {k : Nat} {x : Int} (h : (p.take k).contains x = false) (hk : k ≤ p.length) : ∀ i, i < k → p.getD i 0 ≠ x := by
  intro i hi e
  have : x ∈ p.take k := by
    rw [List.mem_take_iff_getElem]
    refine ⟨i, by omega, ?_⟩
    rw [List.getD_eq_getElem?_getD, List.getElem?_eq_getElem (by omega)] at e
    simpa using e
  rw [← List.contains_iff_mem, h] at this
  exact Bool.noConfusion this

theorem rngB_t {lo hi x : Int} (h : rngB lo hi x = true) : lo ≤ x ∧ x ≤ hi := by unfold rngB at h; simpa using h
theorem rngB_f {lo hi x : Int} (h : rngB lo hi x = false) : ¬ (lo ≤ x ∧ x ≤ hi) := fun hh => by
  have : rngB lo hi x = true := by unfold rngB; simp [hh.1, hh.2]
  rw [this] at h; exact Bool.noConfusion h
/-! ### racks -/
def rkAt (t : List (List Int)) (x y z : Nat) : Bool := decide (tv t x (tv t y z) = tv t (tv t x y) (tv t x z))
def rkOk (n : Nat) (t : List (List Int)) : Bool := allN n fun x => allN n fun y => allN n fun z => rkAt t x y z
def isRk (t : List (List Int)) : Bool := isTab t && (t.all permOk && rkOk t.length t)

end Go.Proofs.Ytgnaeeifnhgobaa
