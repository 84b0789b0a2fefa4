/-
  Linking numbers in plain lists: they add up to the sum, and turn to their opposites in the mirror.
  No condition.
-/
import Derived.Test.YtgnaeeifnhgobaaCloL
import Derived.Test.YtgnaeeifnhgobaaOpp
namespace Go.Proofs.Ytgnaeeifnhgobaa
set_option linter.unusedVariables false
set_option linter.unusedSimpArgs false
set_option maxRecDepth 100000
open Go.RowKit

/-! ### sums -/
def sumI : Nat → (Nat → Int) → Int
  | 0, _ => 0
  | n + 1, f => sumI n f + f n
theorem sumI_congr {n : Nat} {f g : Nat → Int} (h : ∀ i, i < n → f i = g i) : sumI n f = sumI n g := by
  induction n with
  | zero => rfl
  | succ n ih => show sumI n f + f n = sumI n g + g n; rw [ih (fun i hi => h i (by omega)), h n (by omega)]
theorem sumI_add (n : Nat) (f g : Nat → Int) : sumI n (fun i => f i + g i) = sumI n f + sumI n g := by
  induction n with
  | zero => rfl
  | succ n ih => show sumI n _ + (f n + g n) = sumI n f + f n + (sumI n g + g n); rw [ih]; omega
theorem sumI_zero (n : Nat) : sumI n (fun _ => 0) = 0 := by
  induction n with
  | zero => rfl
  | succ n ih => show sumI n _ + 0 = 0; rw [ih]; rfl
theorem sumI_one (n a : Nat) (z : Int) : sumI n (fun i => if i = a then z else 0) = if a < n then z else 0 := by
  induction n with
  | zero => rfl
  | succ n ih =>
    show sumI n _ + (if n = a then z else 0) = _
    rw [ih]
    by_cases h1 : a < n
    · rw [if_pos h1, if_neg (by omega), if_pos (by omega)]; omega
    · by_cases h2 : n = a
      · rw [if_neg h1, if_pos h2, if_pos (by omega)]; omega
      · rw [if_neg h1, if_neg h2, if_neg (by omega)]; rfl
theorem sumI_mul (n : Nat) (f : Nat → Int) : sumI n (fun i => 2 * f i) = 2 * sumI n f := by
  induction n with
  | zero => rfl
  | succ n ih => show sumI n _ + 2 * f n = 2 * (sumI n f + f n); rw [ih]; omega
def sumM (n : Nat) (v : Nat → Nat → Int) : Int := sumI n fun x => sumI n fun y => v x y
theorem sumM_add (n : Nat) (u v : Nat → Nat → Int) : sumM n (fun x y => u x y + v x y) = sumM n u + sumM n v := by
  unfold sumM
  rw [← sumI_add]
  exact sumI_congr fun x _ => sumI_add n _ _
theorem sumM_one (n a b : Nat) (z : Int) (ha : a < n) (hb : b < n) : sumM n (fun x y => if x = a ∧ y = b then z else 0) = z := by
  unfold sumM
  have : ∀ x, x < n → sumI n (fun y => if x = a ∧ y = b then z else 0) = if x = a then z else 0 := by
    intro x _
    by_cases h : x = a
    · rw [if_pos h]
      rw [sumI_congr (g := fun y => if y = b then z else 0) (fun y _ => by simp [h]), sumI_one, if_pos hb]
    · rw [if_neg h, sumI_congr (g := fun _ => 0) (fun y _ => by rw [if_neg (fun hh => h hh.1)]), sumI_zero]
  rw [sumI_congr this, sumI_one, if_pos ha]
/-! ### the sum of all entries, those on the diagonal twice -/
def dbl (v : Nat → Nat → Int) : Nat → Nat → Int := fun x y => if x = y then 2 * v x y else v x y
theorem dbl_addV (v : Nat → Nat → Int) (a b : Nat) (z : Int) (x y : Nat) : dbl (addV v a b z) x y = dbl v x y + ((if x = a ∧ y = b then z else 0) + (if x = b ∧ y = a then z else 0)) := by
  unfold dbl addV updF
  by_cases hab : a = b
  · subst hab
    rw [if_pos rfl]
    by_cases h : x = a ∧ y = a
    · obtain ⟨rfl, rfl⟩ := h; simp; omega
    · simp only [if_neg h]; simp
  · rw [if_neg hab]
    by_cases h1 : x = a ∧ y = b
    · obtain ⟨rfl, rfl⟩ := h1
      have h2 : ¬ (x = y ∧ y = x) := fun h => hab h.1
      simp [h2, hab]
    · by_cases h2 : x = b ∧ y = a
      · obtain ⟨rfl, rfl⟩ := h2
        have h3 : ¬ x = y := fun h => hab h.symm
        simp [h3, h1]
      · simp only [if_neg h1, if_neg h2]; simp
theorem sumM_addV (n : Nat) (v : Nat → Nat → Int) (a b : Nat) (z : Int) (ha : a < n) (hb : b < n) : sumM n (dbl (addV v a b z)) = sumM n (dbl v) + 2 * z := by
  have e : dbl (addV v a b z) = fun x y => dbl v x y + ((if x = a ∧ y = b then z else 0) + (if x = b ∧ y = a then z else 0)) := by funext x y; exact dbl_addV v a b z x y
  rw [e, sumM_add, sumM_add, sumM_one n a b z ha hb, sumM_one n b a z hb ha]; omega
/-- the sum of the signs of the first letters -/
def sgS (xs : List Int) : Int := (xs.map sgn).foldl (· + ·) 0
theorem sgS_take {xs : List Int} {k : Nat} (h : k < xs.length) : sgS (xs.take (k + 1)) = sgS (xs.take k) + sgn xs[k] := by
  unfold sgS
  rw [List.take_succ_eq_append_getElem h, List.map_append, List.foldl_append]; rfl
theorem atK_tau (s : Nat) (xs : List Int) (k j : Nat) (h : LetS s xs) (hj : j < s) : atK s xs k j = tauN (xs.take k) j := by
  have := (strd_pf s (xs.take k) (fun x hx => h x (List.mem_of_mem_take hx))).2.2 j hj
  unfold atK
  rw [this]; simp
theorem LetS.take {s : Nat} {xs : List Int} (h : LetS s xs) (k : Nat) : LetS s (xs.take k) := fun x hx => h x (List.mem_of_mem_take hx)
theorem getD_memL {xs : List Int} {k : Nat} (h : k < xs.length) : xs.getD k 0 ∈ xs := by
  rw [List.getD_eq_getElem?_getD, List.getElem?_eq_getElem h]; exact List.getElem_mem _
theorem sum_dbl (s : Nat) (xs : List Int) (h : LetS s xs) : ∀ k, k ≤ xs.length → sumM (ncL s xs) (dbl (lnkV s xs k)) = 2 * sgS (xs.take k) := by
  intro k
  induction k with
  | zero =>
    intro _
    have e : dbl (lnkV s xs 0) = fun _ _ => 0 := by funext x y; simp [dbl, lnkV]
    rw [e]
    unfold sumM
    rw [sumI_congr (g := fun _ => 0) (fun x _ => sumI_zero _), sumI_zero]
    simp [sgS]
  | succ k ih =>
    intro hk
    have hkk : k < xs.length := by omega
    have hl := h _ (getD_memL hkk)
    show sumM _ (dbl (addV _ _ _ _)) = _
    have t0 := tau_lt (h.take k) (kpl (xs.getD k 0)) (by omega)
    have t1 := tau_lt (h.take k) (kpl (xs.getD k 0) + 1) hl
    have b0 : atK s xs k (plc (xs.getD k 0)).toNat < s := by
      have := atK_tau s xs k (kpl (xs.getD k 0)) h (by omega)
      show atK s xs k (kpl (xs.getD k 0)) < s
      rw [this]; exact t0
    have b1 : atK s xs k ((plc (xs.getD k 0)).toNat + 1) < s := by
      have := atK_tau s xs k (kpl (xs.getD k 0) + 1) h hl
      show atK s xs k (kpl (xs.getD k 0) + 1) < s
      rw [this]; exact t1
    rw [sumM_addV _ _ _ _ _ (labN_lt s xs _ b0).1 (labN_lt s xs _ b1).1, ih (by omega), sgS_take hkk]
    have e : xs.getD k 0 = xs[k] := by rw [List.getD_eq_getElem?_getD, List.getElem?_eq_getElem hkk]; rfl
    rw [e]; omega

/-! ### letters between two components are an even number -/
def invN (x y : Nat) : List Nat → Nat
  | [] => 0
  | a :: l => (if a = x then l.count y else 0) + invN x y l
theorem invN_app (x y : Nat) (A C : List Nat) : invN x y (A ++ C) = invN x y A + A.count x * C.count y + invN x y C := by
  induction A with
  | nil => simp [invN]
  | cons a A ih =>
    show (if a = x then (A ++ C).count y else 0) + invN x y (A ++ C) = (if a = x then A.count y else 0) + invN x y A + (a :: A).count x * C.count y + invN x y C
    rw [ih, List.count_append]
    by_cases h : a = x
    · subst h; rw [if_pos rfl, if_pos rfl, List.count_cons_self, Nat.add_mul]; omega
    · rw [if_neg h, if_neg h, List.count_cons_of_ne h]; omega
theorem invN_swap (x y : Nat) (hxy : x ≠ y) (A B : List Nat) (a b : Nat) :
    (invN x y (A ++ b :: a :: B) + invN x y (A ++ a :: b :: B)) % 2 = if (x = a ∧ y = b) ∨ (x = b ∧ y = a) then 1 else 0 := by
  have e : (b :: a :: B).count y = (a :: b :: B).count y := by simp only [List.count_cons]; omega
  rw [invN_app, invN_app, e]
  have e1 : invN x y (b :: a :: B) = (if b = x then (a :: B).count y else 0) + ((if a = x then B.count y else 0) + invN x y B) := rfl
  have e2 : invN x y (a :: b :: B) = (if a = x then (b :: B).count y else 0) + ((if b = x then B.count y else 0) + invN x y B) := rfl
  rw [e1, e2]
  simp only [List.count_cons, beq_iff_eq]
  by_cases h1 : a = x
  · subst h1
    have hne : ¬ a = y := hxy
    by_cases h2 : b = a
    · subst h2
      have : ¬ y = b := fun h => hxy h.symm
      simp [hne, this]; omega
    · by_cases h3 : b = y
      · subst h3; simp [h2, hne]; omega
      · have h4 : ¬ y = b := fun h => h3 h.symm
        have h5 : ¬ a = b := fun h => h2 h.symm
        simp [h2, h3, hne, h4, h5]; omega
  · by_cases h2 : b = x
    · subst h2
      have hne : ¬ b = y := hxy
      by_cases h3 : a = y
      · subst h3; simp [h1, hne]; omega
      · have h4 : ¬ y = a := fun h => h3 h.symm
        have h5 : ¬ b = a := fun h => h1 h.symm
        simp [h1, h3, hne, h4, h5]; omega
    · have h4 : ¬ x = a := fun h => h1 h.symm
      have h5 : ¬ x = b := fun h => h2 h.symm
      simp [h1, h2, h4, h5]; omega
/-- the labels at the places, after the first k letters -/
def arrK (s : Nat) (xs : List Int) (k : Nat) : List Nat := (List.range s).map fun j => labN s xs (tauN (xs.take k) j)
theorem swp_split (s j : Nat) (F : Nat → Nat) (hj : j + 1 < s) : ∃ A B : List Nat, (List.range s).map F = A ++ F j :: F (j + 1) :: B ∧ (List.range s).map (fun i => F (sig j i)) = A ++ F (j + 1) :: F j :: B := by
  refine ⟨(List.range j).map F, (List.range (s - (j + 2))).map (fun i => F (j + 2 + i)), ?_, ?_⟩
  · have e : List.range s = List.range j ++ j :: (j + 1) :: (List.range (s - (j + 2))).map (fun i => j + 2 + i) := by
      apply List.ext_getElem
      · simp; omega
      · intro i h1 h2
        simp only [List.getElem_range, List.getElem_append, List.length_range, List.getElem_cons, List.getElem_map]
        split
        · rfl
        · split
          · omega
          · split <;> omega
    rw [e, List.map_append, List.map_cons, List.map_cons, List.map_map]; rfl
  · have e : List.range s = List.range j ++ j :: (j + 1) :: (List.range (s - (j + 2))).map (fun i => j + 2 + i) := by
      apply List.ext_getElem
      · simp; omega
      · intro i h1 h2
        simp only [List.getElem_range, List.getElem_append, List.length_range, List.getElem_cons, List.getElem_map]
        split
        · rfl
        · split
          · omega
          · split <;> omega
    rw [e, List.map_append, List.map_cons, List.map_cons, List.map_map]
    have e1 : (List.range j).map (fun i => F (sig j i)) = (List.range j).map F := List.map_congr_left fun i hi => by
      have := List.mem_range.1 hi
      show F (sig j i) = F i
      unfold sig; rw [if_neg (by omega), if_neg (by omega)]
    have e2 : (List.range (s - (j + 2))).map ((fun i => F (sig j i)) ∘ fun i => j + 2 + i) = (List.range (s - (j + 2))).map (fun i => F (j + 2 + i)) := List.map_congr_left fun i hi => by
      show F (sig j (j + 2 + i)) = _
      unfold sig; rw [if_neg (by omega), if_neg (by omega)]
    have e3 : sig j j = j + 1 := by unfold sig; rw [if_pos rfl]
    have e4 : sig j (j + 1) = j := by unfold sig; rw [if_neg (by omega), if_pos rfl]
    rw [e1, e2, e3, e4]
theorem addV_off (v : Nat → Nat → Int) (a b : Nat) (z : Int) (x y : Nat) (hxy : x ≠ y) : addV v a b z x y = v x y + if (x = a ∧ y = b) ∨ (x = b ∧ y = a) then z else 0 := by
  have h := dbl_addV v a b z x y
  unfold dbl at h
  rw [if_neg hxy, if_neg hxy] at h
  rw [h]
  by_cases h1 : x = a ∧ y = b
  · have h2 : ¬ (x = b ∧ y = a) := fun h2 => hxy (by rw [h1.1, h2.2])
    rw [if_pos h1, if_neg h2, if_pos (.inl h1)]; omega
  · by_cases h2 : x = b ∧ y = a
    · rw [if_neg h1, if_pos h2, if_pos (.inr h2)]; omega
    · rw [if_neg h1, if_neg h2, if_neg (by rintro (h | h); exact h1 h; exact h2 h)]; rfl
theorem par (s : Nat) (xs : List Int) (h : LetS s xs) (x y : Nat) (hxy : x ≠ y) : ∀ k, k ≤ xs.length → (lnkV s xs k x y + (invN x y (arrK s xs 0) : Int) + (invN x y (arrK s xs k) : Int)) % 2 = 0 := by
  intro k
  induction k with
  | zero => intro _; show ((0 : Int) + _ + _) % 2 = 0; omega
  | succ k ih =>
    intro hk
    have hkk : k < xs.length := by omega
    have ihk := ih (by omega)
    have e : xs.getD k 0 = xs[k] := by rw [List.getD_eq_getElem?_getD, List.getElem?_eq_getElem hkk]; rfl
    have hl := h _ (getD_memL hkk)
    show (addV _ _ _ _ x y + _ + _) % 2 = 0
    have a0 := atK_tau s xs k (kpl (xs.getD k 0)) h (by omega)
    have a1 := atK_tau s xs k (kpl (xs.getD k 0) + 1) h hl
    show (addV (lnkV s xs k) (labN s xs (atK s xs k (kpl (xs.getD k 0)))) (labN s xs (atK s xs k (kpl (xs.getD k 0) + 1))) (sgn (xs.getD k 0)) x y + _ + _) % 2 = 0
    rw [a0, a1, addV_off _ _ _ _ _ _ hxy]
    obtain ⟨A, B, h1, h2⟩ := swp_split s (kpl (xs.getD k 0)) (fun j => labN s xs (tauN (xs.take k) j)) hl
    have e1 : arrK s xs k = _ := h1
    have e3 : arrK s xs (k + 1) = (List.range s).map (fun i => labN s xs (tauN (xs.take k) (sig (kpl (xs.getD k 0)) i))) := by
      unfold arrK
      apply List.map_congr_left
      intro j _
      rw [List.take_succ_eq_append_getElem hkk, tau_app, e]; rfl
    have e2 := e3.trans h2
    rw [e1] at ihk
    rw [e2]
    have hs := invN_swap x y hxy A B (labN s xs (tauN (xs.take k) (kpl (xs.getD k 0)))) (labN s xs (tauN (xs.take k) (kpl (xs.getD k 0) + 1)))
    have hsg : sgn (xs.getD k 0) = 1 ∨ sgn (xs.getD k 0) = -1 := by unfold sgn; split <;> simp
    generalize labN s xs (tauN (xs.take k) (kpl (xs.getD k 0))) = a at *
    generalize labN s xs (tauN (xs.take k) (kpl (xs.getD k 0) + 1)) = b at *
    generalize invN x y (A ++ b :: a :: B) = I1 at *
    generalize invN x y (A ++ a :: b :: B) = I2 at *
    generalize sgn (xs.getD k 0) = z at *
    split at hs
    · rename_i hc; rw [if_pos hc]; omega
    · rename_i hc; rw [if_neg hc]; omega
theorem even_lnk (s : Nat) (xs : List Int) (h1 : 2 ≤ s) (h2 : s ≤ 6) (h : LetS s xs) (x y : Nat) (hxy : x ≠ y) : lnkV s xs xs.length x y % 2 = 0 := by
  have := par s xs h x y hxy xs.length (Nat.le_refl _)
  have e : arrK s xs xs.length = arrK s xs 0 := by
    unfold arrK
    apply List.map_congr_left
    intro j hj
    have hj := List.mem_range.1 hj
    rw [List.take_length, List.take_zero]
    show labN s xs (tauN xs j) = labN s xs j
    have ht := tau_lt h j hj
    have hr := lab_rho s xs h1 h2 h (tauN xs j) ht
    rw [(tau_rho xs j).2] at hr
    unfold labN
    rw [hr]
  rw [e] at this
  omega
/-- linking numbers and writhes add up to the sum -/
theorem sum_hal (s : Nat) (xs : List Int) (h1 : 2 ≤ s) (h2 : s ≤ 6) (h : LetS s xs) : sumM (ncL s xs) (halV (lnkV s xs xs.length)) = sgS xs := by
  have hd := sum_dbl s xs h xs.length (Nat.le_refl _)
  rw [List.take_length] at hd
  have e : dbl (lnkV s xs xs.length) = fun x y => 2 * halV (lnkV s xs xs.length) x y := by
    funext x y
    unfold dbl halV
    by_cases hxy : x = y
    · rw [if_pos hxy, if_pos hxy]
    · rw [if_neg hxy, if_neg hxy]
      have := even_lnk s xs h1 h2 h x y hxy
      generalize lnkV s xs xs.length x y = z at *
      obtain ⟨u, rfl⟩ : ∃ u, z = 2 * u := ⟨z / 2, by omega⟩
      rw [Int.mul_tdiv_cancel_left u (by omega)]
  rw [e] at hd
  have e2 : sumM (ncL s xs) (fun x y => 2 * halV (lnkV s xs xs.length) x y) = 2 * sumM (ncL s xs) (halV (lnkV s xs xs.length)) := by
    unfold sumM
    rw [← sumI_mul]
    exact sumI_congr fun x _ => sumI_mul _ _
  rw [e2] at hd
  omega
theorem lnk_sym (s : Nat) (xs : List Int) (k : Nat) : ∀ x y, lnkV s xs k x y = lnkV s xs k y x := by
  induction k with
  | zero => intro x y; rfl
  | succ k ih =>
    intro x y
    show addV _ _ _ _ x y = addV _ _ _ _ y x
    by_cases hxy : x = y
    · rw [hxy]
    · rw [addV_off _ _ _ _ _ _ hxy, addV_off _ _ _ _ _ _ (Ne.symm hxy), ih x y]
      congr 1
      generalize labN s xs _ = a
      generalize labN s xs _ = b
      by_cases h1 : (x = a ∧ y = b) ∨ (x = b ∧ y = a)
      · rw [if_pos h1, if_pos (by rcases h1 with ⟨h, h'⟩ | ⟨h, h'⟩; exact .inr ⟨h', h⟩; exact .inl ⟨h', h⟩)]
      · rw [if_neg h1, if_neg (by rintro (⟨h, h'⟩ | ⟨h, h'⟩); exact h1 (.inr ⟨h', h⟩); exact h1 (.inl ⟨h', h⟩))]
theorem hal_sym (s : Nat) (xs : List Int) (x y : Nat) : halV (lnkV s xs xs.length) x y = halV (lnkV s xs xs.length) y x := by
  unfold halV
  by_cases h : x = y
  · rw [if_pos h, if_pos h.symm, h]
  · rw [if_neg h, if_neg (Ne.symm h), lnk_sym]

/-! ### the mirror -/
theorem plc_neg (x : Int) : plc (-x) = plc x := by unfold plc; split <;> split <;> omega
theorem strd_neg (s : Nat) (xs : List Int) : strd s (negL xs) = strd s xs := by
  unfold strd negL
  rw [List.foldl_map]
  congr 1
  funext a x
  rw [plc_neg]
theorem compL_neg (s : Nat) (xs : List Int) : compL s (negL xs) = compL s xs := by unfold compL brP; rw [strd_neg]
theorem negL_take (xs : List Int) (k : Nat) : (negL xs).take k = negL (xs.take k) := by unfold negL; rw [List.map_take]
theorem addV_neg (v : Nat → Nat → Int) (a b : Nat) (z : Int) : addV (fun x y => -v x y) a b (-z) = fun x y => -addV v a b z x y := by
  funext x y
  unfold addV updF
  by_cases hab : a = b
  · rw [if_pos hab, if_pos hab]
    by_cases h : x = a ∧ y = b
    · simp only [if_pos h]; omega
    · simp only [if_neg h]
  · rw [if_neg hab, if_neg hab]
    by_cases h2 : x = b ∧ y = a
    · simp only [if_pos h2]; omega
    · by_cases h : x = a ∧ y = b
      · simp only [if_neg h2, if_pos h]; omega
      · simp only [if_neg h2, if_neg h]
theorem lnk_neg (s : Nat) (xs : List Int) (h0 : ∀ x ∈ xs, x ≠ 0) : ∀ k, k ≤ xs.length → lnkV s (negL xs) k = fun x y => -lnkV s xs k x y := by
  intro k
  induction k with
  | zero => intro _; funext x y; simp [lnkV]
  | succ k ih =>
    intro hk
    have hkk : k < xs.length := by omega
    have e : (negL xs).getD k 0 = -(xs.getD k 0) := by
      simp [negL, List.getD_eq_getElem?_getD, List.getElem?_eq_getElem hkk]
    have hz := h0 _ (getD_memL hkk)
    have hs : sgn (-(xs.getD k 0)) = -sgn (xs.getD k 0) := by unfold sgn; split <;> split <;> omega
    have hat : ∀ j, atK s (negL xs) k j = atK s xs k j := fun j => by unfold atK; rw [negL_take, strd_neg]
    have hlb : ∀ j, labN s (negL xs) j = labN s xs j := fun j => by unfold labN; rw [compL_neg]
    show addV _ _ _ _ = fun x y => -addV _ _ _ _ x y
    rw [ih (by omega), e, plc_neg, hs, hat, hat, hlb, hlb, addV_neg]
theorem hal_neg (s : Nat) (xs : List Int) (h0 : ∀ x ∈ xs, x ≠ 0) (x y : Nat) : halV (lnkV s (negL xs) (negL xs).length) x y = -halV (lnkV s xs xs.length) x y := by
  rw [negL_len, lnk_neg s xs h0 _ (Nat.le_refl _)]
  unfold halV
  split
  · rfl
  · exact Int.neg_tdiv _ _
theorem ncL_neg (s : Nat) (xs : List Int) : ncL s (negL xs) = ncL s xs := by unfold ncL; rw [compL_neg]
theorem isBr_mk {s : Int} {xs : List Int} (h : 2 ≤ s ∧ s ≤ 6) (h2 : xs.length ≤ 30) (h3 : ∀ x ∈ xs, x ≠ 0 ∧ 1 - s ≤ x ∧ x ≤ s - 1) : isBr s xs = true := by
  have e1 : wrap64 (1 - s) = 1 - s := IntWalk.wrap64_in _ ⟨by omega, by omega⟩
  have e2 : wrap64 (s - 1) = s - 1 := IntWalk.wrap64_in _ ⟨by omega, by omega⟩
  simp only [isBr, Bool.and_eq_true, decide_eq_true_eq, List.all_eq_true]
  refine ⟨⟨h, h2⟩, fun x hx => ?_⟩
  have := h3 x hx
  simp only [isLet, Bool.and_eq_true, decide_eq_true_eq, e1, e2]
  exact this
theorem isBr_neg (s : Int) (xs : List Int) (h : isBr s xs = true) : isBr s (negL xs) = true := by
  have hl := isBr_let h
  refine isBr_mk hl.1 (by rw [negL_len]; exact hl.2.1) fun x hx => ?_
  obtain ⟨y, hy, rfl⟩ := List.mem_map.1 hx
  have := hl.2.2 y hy
  omega
end Go.Proofs.Ytgnaeeifnhgobaa
