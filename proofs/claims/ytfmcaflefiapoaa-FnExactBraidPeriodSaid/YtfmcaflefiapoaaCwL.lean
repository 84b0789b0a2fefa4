/-
  The weights of all colourings of a braid, and how often each comes, in plain lists.
  No condition.
-/
import Derived.Test.YtfmcaflefiapoaaColsI
import Derived.Test.YtfmcaflefiapoaaWtL
namespace Go.Proofs.Ytfmcaflefiapoaa
set_option linter.unusedVariables false
set_option linter.unusedSimpArgs false

/-- the weights of the first k of some tuples -/
def wtsK (n : Nat) (f g M : List (List Int)) (m : Int) (xs : List Int) (L : List (List Int)) (k : Nat) : List Int := (L.take k).map (wtF n f g M m xs)
section
variable {n s : Nat} {f g M : List (List Int)} {m : Int} {xs : List Int} {L : List (List Int)} {k : Nat}
theorem wtsK_zero : wtsK n f g M m xs L 0 = [] := by simp [wtsK]
theorem wtsK_succ (h : k < L.length) : wtsK n f g M m xs L (k + 1) = wtsK n f g M m xs L k ++ [wtF n f g M m xs (L.getD k [])] := by
  unfold wtsK
  rw [List.take_succ_eq_append_getElem h, List.map_append]
  simp [List.getD_eq_getElem?_getD, List.getElem?_eq_getElem h]
theorem wtsK_all : wtsK n f g M m xs L L.length = L.map (wtF n f g M m xs) := by simp [wtsK]
theorem wtsK_len (h : k ≤ L.length) : (wtsK n f g M m xs L k).length = k := by unfold wtsK; rw [List.length_map, List.length_take]; omega
end
/-- all colourings' weights, and the code -/
def cwF (f g : List (List Int)) (m : Int) (M : List (List Int)) (s : Int) (xs : List Int) : List Int × Int :=
  if isSol f g then (if isBr s xs then (if isMx f.length m M then (if wtFlt f.length f g M m = [] then (if f.length ^ s.toNat ≤ 5000 then ((colsL f.length s.toNat f g xs).map (wtF f.length f g M m xs), 0) else ([], 3)) else ([], 5)) else ([], 2)) else ([], 1)) else ([], 1)
section
variable {f g M : List (List Int)} {m s : Int} {xs : List Int}
theorem cwF_0 (h : isSol f g = false) : cwF f g m M s xs = ([], 1) := by unfold cwF; rw [h]; rfl
theorem cwF_1 (h : isSol f g = true) (h1 : isBr s xs = false) : cwF f g m M s xs = ([], 1) := by unfold cwF; rw [h, h1]; rfl
theorem cwF_2 (h : isSol f g = true) (h1 : isBr s xs = true) (h2 : isMx f.length m M = false) : cwF f g m M s xs = ([], 2) := by unfold cwF; rw [h, h1, h2]; rfl
theorem cwF_3 (h : isSol f g = true) (h1 : isBr s xs = true) (h2 : isMx f.length m M = true) (h3 : wtFlt f.length f g M m ≠ []) : cwF f g m M s xs = ([], 5) := by unfold cwF; rw [h, h1, h2]; simp [h3]
theorem cwF_4 (h : isSol f g = true) (h1 : isBr s xs = true) (h2 : isMx f.length m M = true) (h3 : wtFlt f.length f g M m = []) (h4 : ¬ f.length ^ s.toNat ≤ 5000) : cwF f g m M s xs = ([], 3) := by unfold cwF; rw [h, h1, h2, h3]; simp; omega
theorem cwF_5 (h : isSol f g = true) (h1 : isBr s xs = true) (h2 : isMx f.length m M = true) (h3 : wtFlt f.length f g M m = []) (h4 : f.length ^ s.toNat ≤ 5000) : cwF f g m M s xs = ((colsL f.length s.toNat f g xs).map (wtF f.length f g M m xs), 0) := by unfold cwF; rw [h, h1, h2, h3]; simp; omega
theorem Cw_len (f g : List (List Int)) (m : Int) (M : List (List Int)) (s : Int) (xs : List Int) : List.length (cwF f g m M s xs).1 ≤ 1000000 := by
  unfold cwF
  split
  · split
    · split
      · split
        · split
          · rename_i h
            simp only [List.length_map]
            have := colsK_len (n := f.length) (s := s.toNat) (f := f) (g := g) (xs := xs) (k := f.length ^ s.toNat)
            unfold colsL
            omega
          · simp
        · simp
      · simp
    · simp
  · simp
/-- the codes -/
theorem cwF_code : (cwF f g m M s xs).2 = 0 → isSol f g = true ∧ isBr s xs = true ∧ isMx f.length m M = true ∧ wtFlt f.length f g M m = [] ∧ f.length ^ s.toNat ≤ 5000 := by
  unfold cwF
  split
  · rename_i h0
    split
    · rename_i h1
      split
      · rename_i h2
        split
        · rename_i h3
          split
          · rename_i h4; intro _; exact ⟨h0, h1, h2, h3, h4⟩
          · intro h; simp at h
        · intro h; simp at h
      · intro h; simp at h
    · intro h; simp at h
  · intro h; simp at h
theorem wtF_bd {n : Nat} {l : List Int} (h : 1 ≤ m) : 0 ≤ wtF n f g M m xs l ∧ wtF n f g M m xs l < m := ⟨Int.emod_nonneg _ (by omega), Int.emod_lt_of_pos _ (by omega)⟩
theorem cwF_bd (h : (cwF f g m M s xs).2 = 0) : (1 ≤ m ∧ m ≤ 12) ∧ ∀ x ∈ (cwF f g m M s xs).1, 0 ≤ x ∧ x < m := by
  obtain ⟨h0, h1, h2, h3, h4⟩ := cwF_code h
  have hm := (isMx_sq h2).1
  refine ⟨hm, ?_⟩
  rw [cwF_5 h0 h1 h2 h3 h4]
  intro x hx
  obtain ⟨l, _, rfl⟩ := List.mem_map.1 hx
  exact wtF_bd hm.1
end
/-- how often each of 0, 1, .. is among some numbers -/
def cntL (m : Nat) (L : List Int) : List Int := L.foldl (fun C x => C.set x.toNat (C.getD x.toNat 0 + 1)) (List.replicate m 0)
theorem cntL_len (m : Nat) (L : List Int) : (cntL m L).length = m := by
  have : ∀ C : List Int, (L.foldl (fun C x => C.set x.toNat (C.getD x.toNat 0 + 1)) C).length = C.length := by
    induction L with
    | nil => intro C; rfl
    | cons x r ih => intro C; rw [List.foldl_cons, ih, List.length_set]
  unfold cntL; rw [this]; simp
theorem cntL_take {m : Nat} {L : List Int} {k : Nat} (h : k < L.length) : cntL m (L.take (k + 1)) = (cntL m (L.take k)).set (L.getD k 0).toNat ((cntL m (L.take k)).getD (L.getD k 0).toNat 0 + 1) := by
  unfold cntL
  rw [List.take_succ_eq_append_getElem h, List.foldl_append]
  simp [List.getD_eq_getElem?_getD, List.getElem?_eq_getElem h]
theorem cntL_bd (m : Nat) (L : List Int) (i : Nat) : 0 ≤ (cntL m L).getD i 0 ∧ (cntL m L).getD i 0 ≤ L.length := by
  have : ∀ (C : List Int) (b : Int), (∀ i, 0 ≤ C.getD i 0 ∧ C.getD i 0 ≤ b) → ∀ i, 0 ≤ (L.foldl (fun C x => C.set x.toNat (C.getD x.toNat 0 + 1)) C).getD i 0 ∧ (L.foldl (fun C x => C.set x.toNat (C.getD x.toNat 0 + 1)) C).getD i 0 ≤ b + L.length := by
    induction L with
    | nil => intro C b h i; have := h i; simpa using this
    | cons x r ih =>
      intro C b h i
      rw [List.foldl_cons]
      have := ih (C.set x.toNat (C.getD x.toNat 0 + 1)) (b + 1) (fun j => by
        have h1 := h j
        have h2 := h x.toNat
        by_cases hj : j < C.length
        · by_cases e : j = x.toNat
          · subst e
            have : (C.set x.toNat (C.getD x.toNat 0 + 1)).getD x.toNat 0 = C.getD x.toNat 0 + 1 := by
              simp [List.getD_eq_getElem?_getD, List.getElem?_set, hj]
            rw [this]; omega
          · have : (C.set x.toNat (C.getD x.toNat 0 + 1)).getD j 0 = C.getD j 0 := by
              simp [List.getD_eq_getElem?_getD, List.getElem?_set, show x.toNat ≠ j from fun q => e q.symm]
            rw [this]; omega
        · have : (C.set x.toNat (C.getD x.toNat 0 + 1)).getD j 0 = 0 := by
            rw [List.getD_eq_getElem?_getD, List.getElem?_eq_none (by rw [List.length_set]; omega)]; rfl
          rw [this]
          omega) i
      rw [List.length_cons]
      push_cast
      omega
  have h := this (List.replicate m 0) 0 (fun j => by
    simp [List.getD_eq_getElem?_getD, List.getElem?_replicate]
    split <;> simp) i
  simpa [cntL] using h
/-- a state sum, and the code -/
def stF (f g : List (List Int)) (m : Int) (M : List (List Int)) (s : Int) (xs : List Int) : List Int × Int := if (cwF f g m M s xs).2 = 0 then (cntL m.toNat (cwF f g m M s xs).1, 0) else ([], (cwF f g m M s xs).2)
theorem St_len (f g : List (List Int)) (m : Int) (M : List (List Int)) (s : Int) (xs : List Int) : List.length (stF f g m M s xs).1 ≤ 1000000 := by
  unfold stF
  split
  · rename_i h
    have := (cwF_bd h).1
    show List.length (cntL _ _) ≤ _
    rw [cntL_len]; omega
  · simp
end Go.Proofs.Ytfmcaflefiapoaa
