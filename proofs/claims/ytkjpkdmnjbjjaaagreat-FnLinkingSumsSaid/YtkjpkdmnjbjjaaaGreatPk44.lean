/-
  Walks and plain laws of this seat, some texts in one.
  No condition but bounds on lengths.
-/
import Derived.Test.YtkjpkdmnjbjjaaaGreatPk39
import Derived.Test.YtkjpkdmnjbjjaaaGreatPk4
import Derived.Test.YtkjpkdmnjbjjaaaGreatPk37
import Derived.Test.YtkjpkdmnjbjjaaaGreatPk11
namespace Go.Proofs.YtkjpkdmnjbjjaaaGreat
set_option linter.unusedVariables false
set_option linter.unusedSimpArgs false
/-! ### lists of labels, two neighbours of which change places -/
def swN : List Nat → Nat → List Nat
  | a :: b :: r, 0 => b :: a :: r
  | a :: r, k + 1 => a :: swN r k
  | l, _ => l
theorem swN_len : ∀ (l : List Nat) (k : Nat), (swN l k).length = l.length
  | [], 0 => rfl
  | [], _ + 1 => rfl
  | [_], 0 => rfl
  | _ :: _ :: _, 0 => rfl
  | a :: r, k + 1 => by simp [swN, swN_len r k]
theorem sig_suc (k j : Nat) : sig (k + 1) (j + 1) = sig k j + 1 := by unfold sig; split <;> split <;> (try split) <;> (try split) <;> omega
theorem sig_suc0 (k : Nat) : sig (k + 1) 0 = 0 := by unfold sig; rw [if_neg (by omega), if_neg (by omega)]
theorem swN_get : ∀ (l : List Nat) (k j : Nat), k + 1 < l.length → (swN l k).getD j 0 = l.getD (sig k j) 0
  | [], _, _, h => by simp at h
  | [_], k, _, h => by simp at h
  | a :: b :: r, 0, 0, _ => by simp [swN, sig]
  | a :: b :: r, 0, 1, _ => by simp [swN, sig]
  | a :: b :: r, 0, j + 2, _ => by simp [swN, sig]
  | a :: b :: r, k + 1, 0, _ => by rw [sig_suc0]; simp [swN]
  | a :: b :: r, k + 1, j + 1, h => by
    rw [sig_suc]
    have := swN_get (b :: r) k j (by simpa using h)
    simpa [swN] using this
def cnN (k : Nat) : List Nat → Int
  | [] => 0
  | a :: r => (if a = k then 1 else 0) + cnN k r
theorem cnN_sw (i : Nat) : ∀ (l : List Nat) (k : Nat), cnN i (swN l k) = cnN i l
  | [], 0 => rfl
  | [], _ + 1 => rfl
  | [_], 0 => rfl
  | _ :: _ :: _, 0 => by simp only [swN, cnN]; omega
  | a :: r, k + 1 => by simp only [swN, cnN]; rw [cnN_sw i r k]
def inwN (i k : Nat) : List Nat → Int
  | [] => 0
  | a :: r => (if a = i then cnN k r else 0) + inwN i k r
theorem inwN_sw (i k : Nat) : ∀ (l : List Nat) (j : Nat), j + 1 < l.length →
    inwN i k (swN l j) = inwN i k l + (if l.getD (j + 1) 0 = i ∧ l.getD j 0 = k then 1 else 0) - (if l.getD j 0 = i ∧ l.getD (j + 1) 0 = k then 1 else 0)
  | [], _, h => by simp at h
  | [_], _, h => by simp at h
  | a :: b :: r, 0, _ => by
    simp only [swN, inwN, cnN, List.getD_cons_zero, List.getD_cons_succ]
    by_cases h1 : a = i <;> by_cases h2 : b = i <;> by_cases h3 : a = k <;> by_cases h4 : b = k <;> simp [h1, h2, h3, h4] <;> omega
  | a :: b :: r, j + 1, h => by
    have := inwN_sw i k (b :: r) j (by simpa using h)
    simp only [swN, inwN, List.getD_cons_succ] at this ⊢
    rw [this, cnN_sw]
    omega
def runN : List Int → List Nat → List Nat
  | [], l => l
  | x :: xs, l => runN xs (swN l (kpl x))
theorem runN_len : ∀ (xs : List Int) (l : List Nat), (runN xs l).length = l.length
  | [], _ => rfl
  | x :: xs, l => by rw [runN, runN_len xs, swN_len]
theorem runN_get : ∀ (xs : List Int) (l : List Nat) (j : Nat), LetS l.length xs → (runN xs l).getD j 0 = l.getD (tauN xs j) 0
  | [], _, _, _ => rfl
  | x :: xs, l, j, h => by
    rw [runN, runN_get xs _ j (fun y hy => by rw [swN_len]; exact h y (List.mem_cons_of_mem _ hy)), swN_get _ _ _ (h x List.mem_cons_self)]
    rfl
def fsN (x : Int) (l : List Nat) : Nat := if x < 0 then l.getD (kpl x + 1) 0 else l.getD (kpl x) 0
def sdN (x : Int) (l : List Nat) : Nat := if x < 0 then l.getD (kpl x) 0 else l.getD (kpl x + 1) 0
def crN (i k : Nat) : List Int → List Nat → Int
  | [], _ => 0
  | x :: xs, l => (if fsN x l = i ∧ sdN x l = k then sgn x else 0) + crN i k xs (swN l (kpl x))
theorem crN_app (i k : Nat) (ys : List Int) : ∀ (xs : List Int) (l : List Nat), crN i k (xs ++ ys) l = crN i k xs l + crN i k ys (runN xs l)
  | [], l => by simp [crN, runN]
  | x :: xs, l => by
    have := crN_app i k ys xs (swN l (kpl x))
    simp only [List.cons_append, crN, runN]
    omega
theorem crN_inv (i k : Nat) : ∀ (xs : List Int) (l : List Nat), LetS l.length xs → inwN i k (runN xs l) = inwN i k l + crN k i xs l - crN i k xs l
  | [], l, _ => by simp [crN, runN]
  | x :: xs, l, h => by
    have h1 := crN_inv i k xs (swN l (kpl x)) (fun y hy => by rw [swN_len]; exact h y (List.mem_cons_of_mem _ hy))
    have h2 := inwN_sw i k l (kpl x) (h x List.mem_cons_self)
    simp only [crN, runN]
    rw [h1, h2]
    unfold fsN sdN sgn
    by_cases hx : x < 0
    · simp only [hx, if_true]
      generalize l.getD (kpl x + 1) 0 = u
      generalize l.getD (kpl x) 0 = v
      by_cases a1 : u = i <;> by_cases a2 : v = k <;> by_cases a3 : u = k <;> by_cases a4 : v = i <;> simp [a1, a2, a3, a4] <;> omega
    · simp only [hx, if_false]
      generalize l.getD (kpl x + 1) 0 = u
      generalize l.getD (kpl x) 0 = v
      by_cases a1 : u = i <;> by_cases a2 : v = k <;> by_cases a3 : u = k <;> by_cases a4 : v = i <;> simp [a1, a2, a3, a4] <;> omega
theorem crN_sym {xs : List Int} {l : List Nat} (h : LetS l.length xs) (hr : runN xs l = l) (i k : Nat) : crN i k xs l = crN k i xs l := by
  have := crN_inv i k xs l h
  rw [hr] at this; omega
def psN (G : Nat → Nat → Int) : List Int → List Nat → Int
  | [], _ => 0
  | x :: xs, l => sgn x * G (fsN x l) (sdN x l) + psN G xs (swN l (kpl x))
def smN (n : Nat) (v : Nat → Int) : Int := match n with
  | 0 => 0
  | n + 1 => smN n v + v n
theorem smN_congr {n : Nat} {u v : Nat → Int} (h : ∀ i, i < n → u i = v i) : smN n u = smN n v := by
  induction n with
  | zero => rfl
  | succ n ih => simp only [smN]; rw [ih (fun i hi => h i (by omega)), h n (by omega)]
theorem smN_add (n : Nat) (u v : Nat → Int) : smN n (fun i => u i + v i) = smN n u + smN n v := by
  induction n with
  | zero => rfl
  | succ n ih => simp only [smN]; rw [ih]; omega
theorem smN_zero (n : Nat) : smN n (fun _ => 0) = 0 := by
  induction n with
  | zero => rfl
  | succ n ih => simp only [smN]; rw [ih]; rfl
theorem smN_one {n a : Nat} (h : a < n) (v : Nat → Int) : smN n (fun i => if i = a then v i else 0) = v a := by
  induction n with
  | zero => omega
  | succ n ih =>
    simp only [smN]
    by_cases e : a = n
    · subst e
      rw [if_pos rfl, smN_congr (v := fun _ => 0) (fun i hi => if_neg (by omega)), smN_zero]; omega
    · rw [ih (by omega), if_neg (by omega)]; omega
theorem smN_bd {n : Nat} {v : Nat → Int} {K : Nat} (h : ∀ i, i < n → -(K : Int) ≤ v i ∧ v i ≤ K) : -((n * K : Nat) : Int) ≤ smN n v ∧ smN n v ≤ ((n * K : Nat) : Int) := by
  induction n with
  | zero => simp [smN]
  | succ n ih =>
    have h1 := ih (fun i hi => h i (by omega))
    have h2 := h n (by omega)
    simp only [smN]
    rw [Nat.succ_mul]
    omega
theorem psN_sum (G : Nat → Nat → Int) (C : Nat) : ∀ (xs : List Int) (l : List Nat), LetS l.length xs → (∀ y ∈ l, y < C) → smN C (fun i => smN C fun k => crN i k xs l * G i k) = psN G xs l
  | [], l, _, _ => by
    simp only [crN, psN, Int.zero_mul]
    rw [smN_congr (v := fun _ => 0) (fun i hi => smN_zero _), smN_zero]
  | x :: xs, l, h, hC => by
    have hm : ∀ y ∈ swN l (kpl x), y < C := fun y hy => by
      obtain ⟨j, hj, rfl⟩ := List.getElem_of_mem hy
      have := swN_get l (kpl x) j (h x List.mem_cons_self)
      rw [swN_len] at hj
      have hs := sig_lt (kpl x) j l.length (h x List.mem_cons_self) hj
      rw [List.getD_eq_getElem?_getD, List.getElem?_eq_getElem (by rw [swN_len]; exact hj), Option.getD_some, List.getD_eq_getElem?_getD, List.getElem?_eq_getElem hs, Option.getD_some] at this
      rw [this]; exact hC _ (List.getElem_mem hs)
    have ih := psN_sum G C xs (swN l (kpl x)) (fun y hy => by rw [swN_len]; exact h y (List.mem_cons_of_mem _ hy)) hm
    have hx := h x List.mem_cons_self
    have hg : ∀ j, j < l.length → l.getD j 0 < C := fun j hj => by
      rw [List.getD_eq_getElem?_getD, List.getElem?_eq_getElem hj, Option.getD_some]; exact hC _ (List.getElem_mem hj)
    have hf : fsN x l < C := by unfold fsN; split <;> exact hg _ (by omega)
    have hd : sdN x l < C := by unfold sdN; split <;> exact hg _ (by omega)
    simp only [psN]
    rw [← ih]
    have e : ∀ i k, crN i k (x :: xs) l * G i k = (if i = fsN x l then (if k = sdN x l then sgn x * G i k else 0) else 0) + crN i k xs (swN l (kpl x)) * G i k := fun i k => by
      simp only [crN]
      rw [Int.add_mul]
      by_cases a1 : i = fsN x l
      · by_cases a2 : k = sdN x l
        · rw [if_pos ⟨a1.symm, a2.symm⟩, if_pos a1, if_pos a2]
        · rw [if_neg (fun q => a2 q.2.symm), if_pos a1, if_neg a2, Int.zero_mul]
      · rw [if_neg (fun q => a1 q.1.symm), if_neg a1, Int.zero_mul]
    rw [smN_congr (v := fun i => (if i = fsN x l then sgn x * G i (sdN x l) else 0) + smN C fun k => crN i k xs (swN l (kpl x)) * G i k) (fun i hi => by
      rw [smN_congr (fun k hk => e i k), smN_add]
      congr 1
      by_cases a1 : i = fsN x l
      · simp only [if_pos a1]; exact smN_one hd (fun k => sgn x * G i k)
      · simp only [if_neg a1]; exact smN_zero _), smN_add, smN_one hf (fun i => sgn x * G i (sdN x l))]
end Go.Proofs.YtkjpkdmnjbjjaaaGreat

namespace Go.Proofs.YtkjpkdmnjbjjaaaGreat
set_option linter.unusedVariables false
set_option linter.unusedSimpArgs false
def lbN (s : Nat) (xs : List Int) : List Nat := (List.range s).map (labN s xs)
theorem lbN_len (s : Nat) (xs : List Int) : (lbN s xs).length = s := by simp [lbN]
theorem lbN_get {s : Nat} {xs : List Int} {j : Nat} (h : j < s) : (lbN s xs).getD j 0 = labN s xs j := by simp [lbN, List.getD_eq_getElem?_getD, h]
theorem lbN_mem {s : Nat} {xs : List Int} : ∀ y ∈ lbN s xs, y < ncL s xs := fun y hy => by
  obtain ⟨j, hj, rfl⟩ := List.mem_map.1 hy
  exact (labN_lt s xs j (List.mem_range.1 hj)).1
theorem lets_take {s : Nat} {xs : List Int} (h : LetS s xs) (k : Nat) : LetS s (xs.take k) := fun x hx => h x (List.mem_of_mem_take hx)
theorem atK_run {s : Nat} {xs : List Int} (h : LetS s xs) (k : Nat) {j : Nat} (hj : j < s) : labN s xs (atK s xs k j) = (runN (xs.take k) (lbN s xs)).getD j 0 := by
  have ht := lets_take h k
  rw [runN_get _ _ _ (by rw [lbN_len]; exact ht), lbN_get (tauN_lt ht j hj)]
  unfold atK
  rw [(strd_pf s _ ht).2.2 j hj]; rfl
theorem run_back {s : Nat} {xs : List Int} (h1 : 2 ≤ s) (h2 : s ≤ 6) (h : LetS s xs) : runN xs (lbN s xs) = lbN s xs := by
  apply List.ext_getElem
  · rw [runN_len]
  · intro j g1 g2
    have hj : j < s := by rw [lbN_len] at g2; exact g2
    have e1 := runN_get xs (lbN s xs) j (by rw [lbN_len]; exact h)
    rw [lbN_get (tauN_lt h j hj)] at e1
    have e2 : (lbN s xs).getD j 0 = labN s xs j := lbN_get hj
    rw [List.getD_eq_getElem?_getD, List.getElem?_eq_getElem g1, Option.getD_some] at e1
    rw [List.getD_eq_getElem?_getD, List.getElem?_eq_getElem g2, Option.getD_some] at e2
    rw [e1, e2]
    have := lab_rho s xs h1 h2 h (tauN xs j) (tauN_lt h j hj)
    rw [(tau_rho xs j).2] at this
    unfold labN
    rw [this]
theorem lnkV_cr {s : Nat} {xs : List Int} (h : LetS s xs) : ∀ k, k ≤ xs.length → ∀ i j, lnkV s xs k i j = if i = j then crN i i (xs.take k) (lbN s xs) else crN i j (xs.take k) (lbN s xs) + crN j i (xs.take k) (lbN s xs) := by
  intro k
  induction k with
  | zero => intro _ i j; simp [lnkV, crN]
  | succ k ih =>
    intro hk i j
    have ih := ih (by omega)
    have hk' : k < xs.length := by omega
    have hx := h xs[k] (List.getElem_mem hk')
    have exk : xs.getD k 0 = xs[k] := by rw [List.getD_eq_getElem?_getD, List.getElem?_eq_getElem hk', Option.getD_some]
    have e : ∀ i j, crN i j (xs.take (k + 1)) (lbN s xs) = crN i j (xs.take k) (lbN s xs) + (if fsN xs[k] (runN (xs.take k) (lbN s xs)) = i ∧ sdN xs[k] (runN (xs.take k) (lbN s xs)) = j then sgn xs[k] else 0) := fun i j => by
      rw [List.take_succ_eq_append_getElem hk', crN_app]
      simp [crN]
    simp only [e]
    show addV (lnkV s xs k) _ _ _ i j = _
    rw [exk, show (plc xs[k]).toNat = kpl xs[k] from rfl, atK_run h k (by omega), atK_run h k hx]
    unfold fsN sdN
    generalize (runN (xs.take k) (lbN s xs)).getD (kpl xs[k]) 0 = a
    generalize (runN (xs.take k) (lbN s xs)).getD (kpl xs[k] + 1) 0 = b
    generalize sgn xs[k] = z
    have i1 := ih i j
    have i2 := ih a b
    have i3 := ih b a
    have i4 := ih a a
    unfold addV updF
    by_cases hn : xs[k] < 0
    all_goals
      simp only [hn, if_true, if_false]
      by_cases hab : a = b
      · subst hab
        by_cases c1 : i = a <;> by_cases c2 : j = a <;> simp_all <;> omega
      · by_cases c1 : i = a <;> by_cases c2 : j = b <;> by_cases c3 : i = b <;> by_cases c4 : j = a <;> simp_all <;> omega
theorem halV_cr {s : Nat} {xs : List Int} (h1 : 2 ≤ s) (h2 : s ≤ 6) (h : LetS s xs) (i j : Nat) : halV (lnkV s xs xs.length) i j = crN i j xs (lbN s xs) := by
  unfold halV
  rw [lnkV_cr h xs.length (Nat.le_refl _) i j, List.take_length]
  by_cases e : i = j
  · subst e; simp
  · rw [if_neg e, if_neg e, crN_sym (by rw [lbN_len]; exact h) (run_back h1 h2 h) j i, show ∀ a : Int, a + a = a * 2 from fun a => by omega]
    exact Int.mul_tdiv_cancel _ (by decide)
/-! ### the flip -/
theorem flA_tv {n x y : Nat} (hx : x < n) (hy : y < n) : tv (flA n) x y = y := by
  unfold tv flA
  rw [tv_tabF n _ hx hy, unitL_get n y hy]; simp
theorem flB_tv {n x y : Nat} (hx : x < n) (hy : y < n) : tv (flB n) x y = x := by
  unfold tv flB
  rw [tv_tabF n _ hx hy, unitL_get n x hx]; simp
theorem fl_sol : ∀ n : Fin 5, 1 ≤ n.1 → isSol (flA n.1) (flB n.1) = true := by decide +kernel
theorem flA_len (n : Nat) : (flA n).length = n := tabF_len _ _
theorem map_getD (c : Nat → Int) (l : List Nat) (j : Nat) (h : j < l.length) : (l.map c).getD j 0 = c (l.getD j 0) := by
  simp [List.getD_eq_getElem?_getD, List.getElem?_map, List.getElem?_eq_getElem h]
theorem fl_do {n : Nat} {f g : List (List Int)} (hf : ∀ x y, x < n → y < n → tv f x y = y) (hg : ∀ x y, x < n → y < n → tv g x y = x) (col : Nat → Nat) (hc : ∀ a, col a < n) (k : Nat) (l : List Nat) (hk : k + 1 < l.length) :
    doF f g k (l.map fun a => (col a : Int)) = (swN l k).map fun a => (col a : Int) := by
  apply List.ext_getElem
  · rw [doF_len, List.length_map, List.length_map, swN_len]
  · intro j h1 h2
    have hj : j < l.length := by rw [doF_len, List.length_map] at h1; exact h1
    have e1 := doF_get (f := f) (g := g) (i := k) (l := l.map fun a => (col a : Int)) (x := col (l.getD k 0)) (y := col (l.getD (k + 1) 0)) (map_getD _ _ _ (by omega)) (map_getD _ _ _ hk) j (by simpa using hj)
    rw [hf _ _ (hc _) (hc _), hg _ _ (hc _) (hc _), map_getD _ _ _ hj] at e1
    have e2 := map_getD (fun a => (col a : Int)) (swN l k) j (by rw [swN_len]; exact hj)
    rw [swN_get l k j hk] at e2
    rw [List.getD_eq_getElem?_getD, List.getElem?_eq_getElem h1, Option.getD_some] at e1
    rw [List.getD_eq_getElem?_getD, List.getElem?_eq_getElem h2, Option.getD_some] at e2
    rw [e1, e2]
    unfold sig
    by_cases c1 : j = k
    · subst c1; simp
    · by_cases c2 : j = k + 1
      · subst c2; simp
      · simp [c1, c2]
theorem fl_step {n : Nat} (h1 : 1 ≤ n) (h4 : n ≤ 4) (col : Nat → Nat) (hc : ∀ a, col a < n) (x : Int) (l : List Nat) (hk : kpl x + 1 < l.length) :
    stepL n (flA n) (flB n) x (l.map fun a => (col a : Int)) = (swN l (kpl x)).map fun a => (col a : Int) := by
  have hs := isSol_coll (fl_sol ⟨n, by omega⟩ h1)
  rw [flA_len] at hs
  unfold stepL
  split
  · exact fl_do (fun _ _ h1 h2 => flA_tv h1 h2) (fun _ _ h1 h2 => flB_tv h1 h2) col hc _ l hk
  · exact fl_do (fun u v hu hv => bf_tv h1 hs hv hu hu hv (flA_tv hv hu) (flB_tv hv hu)) (fun u v hu hv => bg_tv h1 hs hv hu hu hv (flA_tv hv hu) (flB_tv hv hu)) col hc _ l hk
theorem fl_act {n : Nat} (h1 : 1 ≤ n) (h4 : n ≤ 4) (col : Nat → Nat) (hc : ∀ a, col a < n) : ∀ (xs : List Int) (l : List Nat), LetS l.length xs →
    actL n (flA n) (flB n) xs (l.map fun a => (col a : Int)) = (runN xs l).map fun a => (col a : Int)
  | [], l, _ => rfl
  | x :: xs, l, h => by
    show actL n (flA n) (flB n) xs (stepL n (flA n) (flB n) x _) = _
    rw [fl_step h1 h4 col hc x l (h x List.mem_cons_self)]
    exact fl_act h1 h4 col hc xs _ (fun y hy => by rw [swN_len]; exact h y (List.mem_cons_of_mem _ hy))
theorem fl_wt {n : Nat} (h1 : 1 ≤ n) (h4 : n ≤ 4) (M : List (List Int)) (m : Int) (col : Nat → Nat) (hc : ∀ a, col a < n) : ∀ (xs : List Int) (l : List Nat), LetS l.length xs → (∀ x ∈ xs, x ≠ 0) →
    ∃ z : Int, wtS n (flA n) (flB n) M m xs (l.map fun a => (col a : Int)) = psN (fun a b => ((tv M (col a) (col b) : Nat) : Int)) xs l + m * z
  | [], l, _, _ => ⟨0, by simp [wtS, psN]⟩
  | x :: xs, l, h, h0 => by
    have hk := h x List.mem_cons_self
    have hx0 := h0 x List.mem_cons_self
    obtain ⟨z, ih⟩ := fl_wt h1 h4 M m col hc xs (swN l (kpl x)) (fun y hy => by rw [swN_len]; exact h y (List.mem_cons_of_mem _ hy)) (fun y hy => h0 y (List.mem_cons_of_mem _ hy))
    have es := fl_step h1 h4 col hc x l hk
    have g0 : ∀ (t : List Nat) (j : Nat), j < t.length → ((t.map fun a => (col a : Int)).getD j 0).toNat = col (t.getD j 0) := fun t j hj => by rw [map_getD _ _ _ hj]; simp
    simp only [wtS, psN]
    rw [es, ih]
    unfold wtT fsN sdN sgn
    by_cases hp : 0 < x
    · have hn : ¬ x < 0 := by omega
      refine ⟨z, ?_⟩
      simp only [hp, hn, if_true, if_false]
      rw [show (plc x).toNat = kpl x from rfl, g0 l _ (by omega), g0 l _ hk]
      omega
    · have hn : x < 0 := by omega
      refine ⟨z + 1, ?_⟩
      simp only [hp, hn, if_true, if_false]
      rw [show (plc x).toNat = kpl x from rfl, g0 _ _ (by rw [swN_len]; omega), g0 _ _ (by rw [swN_len]; exact hk), swN_get _ _ _ hk, swN_get _ _ _ hk]
      have s1 : sig (kpl x) (kpl x) = kpl x + 1 := by unfold sig; simp
      have s2 : sig (kpl x) (kpl x + 1) = kpl x := by unfold sig; simp
      rw [s1, s2, Int.mul_add]
      omega
def lkTot (C : Nat) (L M : List (List Int)) (col : List Int) : Int := smN C fun i => smN C fun k => (L.getD i []).getD k 0 * (M.getD (col.getD i 0).toNat []).getD (col.getD k 0).toNat 0
theorem lks_main {N n : Nat} {m : Int} {xs : List Int} {M : List (List Int)} {col : List Int} (hbr : isBr N xs = true) (h1 : 1 ≤ n) (h4 : n ≤ 4) (hM : SqM n m.toNat M) (hcl : col.length = ncL N xs) (hcn : Less n col) :
    wtF n (flA n) (flB n) M m xs ((compL N xs).map fun a => col.getD a.toNat 0) = lkTot (ncL N xs) (tabF (ncL N xs) (halV (lnkV N xs xs.length))) M col % m ∧
    actL n (flA n) (flB n) xs ((compL N xs).map fun a => col.getD a.toNat 0) = (compL N xs).map fun a => col.getD a.toNat 0 := by
  obtain ⟨h26, _, hlet⟩ := isBr_let hbr
  have hL := LetS.of hbr
  obtain ⟨cf, hcf⟩ : ∃ cf : Nat → Nat, ∀ a, cf a = (col.getD a 0).toNat := ⟨_, fun _ => rfl⟩
  have hlt : ∀ a, cf a < n := fun a => by
    rw [hcf]
    by_cases ha : a < col.length
    · obtain ⟨k, hk, e⟩ := hcn a ha
      rw [e]; simpa using hk
    · rw [List.getD_eq_getElem?_getD, List.getElem?_eq_none (by omega)]; show 0 < n; omega
  have ecol : ∀ a, a < ncL N xs → col.getD a 0 = (cf a : Int) := fun a ha => by
    rw [hcf]
    obtain ⟨k, hk, e⟩ := hcn a (by omega)
    rw [e]; simp
  have et : ((compL N xs).map fun a => col.getD a.toNat 0) = (lbN N xs).map fun a => (cf a : Int) := by
    apply List.ext_getElem
    · simp [compL_len, lbN_len]
    · intro j g1 g2
      have hj : j < N := by simpa [compL_len] using g1
      have hl := labN_lt N xs j hj
      rw [List.getElem_map, List.getElem_map]
      have e1 : (compL N xs)[j]'(by rw [compL_len]; exact hj) = ((labN N xs j : Nat) : Int) := by
        rw [← hl.2, List.getD_eq_getElem?_getD, List.getElem?_eq_getElem (by rw [compL_len]; exact hj), Option.getD_some]
      have e2 : (lbN N xs)[j]'(by rw [lbN_len]; exact hj) = labN N xs j := by simp [lbN]
      rw [e1, e2, Int.toNat_natCast]
      exact ecol _ hl.1
  rw [et]
  have hLl : LetS (lbN N xs).length xs := by rw [lbN_len]; exact hL
  refine ⟨?_, by rw [fl_act h1 h4 cf hlt xs _ hLl, run_back (by omega) (by omega) hL]⟩
  obtain ⟨z, hz⟩ := fl_wt h1 h4 M m cf hlt xs (lbN N xs) hLl (fun x hx => (hlet x hx).1)
  unfold wtF
  rw [hz, Int.add_mul_emod_self_left]
  congr 1
  rw [← psN_sum _ (ncL N xs) xs (lbN N xs) hLl lbN_mem]
  unfold lkTot
  refine smN_congr fun i hi => smN_congr fun k hk => ?_
  rw [tabF_val hi hk, halV_cr (by omega) (by omega) hL, ← hcf, ← hcf, ((hM.2 _ (hlt i)).2 _ (hlt k)).2]
end Go.Proofs.YtkjpkdmnjbjjaaaGreat
