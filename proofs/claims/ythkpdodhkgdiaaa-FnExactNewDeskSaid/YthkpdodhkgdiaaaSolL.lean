/-
  Tables, pairs of tables and the equation, in plain lists.
  No condition.
-/
import Derived.Test.YthkpdodhkgdiaaaRowQ
namespace Go.Proofs.Ythkpdodhkgdiaaa
set_option linter.unusedVariables false
set_option linter.unusedSimpArgs false

/-- the value of a table at x and y -/
def tv (t : List (List Int)) (x y : Nat) : Nat := ((t.getD x []).getD y 0).toNat
/-- a table of 1 to 12 elements -/
def isTab (t : List (List Int)) : Bool := rngB 1 12 (t.length : Int) && t.all (rowOk t.length t.length)

/-- a square of n by n numbers less than n -/
def Sq (n : Nat) (t : List (List Int)) : Prop := t.length = n ∧ ∀ x, x < n → (t.getD x []).length = n ∧ ∀ y, y < n → tv t x y < n ∧ (t.getD x []).getD y 0 = ((tv t x y : Nat) : Int)

theorem rowOk_get {n m : Int} {xs : List Int} (h : rowOk n m xs = true) : (xs.length : Int) = n ∧ ∀ y, y < xs.length → 0 ≤ xs.getD y 0 ∧ xs.getD y 0 < m := by
  unfold rowOk at h
  rw [Bool.and_eq_true] at h
  refine ⟨by simpa using h.1, fun y hy => ?_⟩
  have := List.all_eq_true.1 h.2 xs[y] (List.getElem_mem hy)
  unfold rngB at this
  have e : xs.getD y 0 = xs[y] := by simp [List.getD_eq_getElem?_getD, List.getElem?_eq_getElem hy]
  rw [e]
  simp at this
  omega
theorem isTab_sq {t : List (List Int)} (h : isTab t = true) : 1 ≤ t.length ∧ t.length ≤ 12 ∧ Sq t.length t := by
  unfold isTab at h
  rw [Bool.and_eq_true] at h
  have h1 : 1 ≤ t.length ∧ t.length ≤ 12 := by
    have := h.1; unfold rngB at this; simp at this; omega
  refine ⟨h1.1, h1.2, rfl, fun x hx => ?_⟩
  have hr := List.all_eq_true.1 h.2 t[x] (List.getElem_mem hx)
  have e : t.getD x [] = t[x] := by simp [List.getD_eq_getElem?_getD, List.getElem?_eq_getElem hx]
  obtain ⟨h2, h3⟩ := rowOk_get hr
  rw [e]
  refine ⟨by omega, fun y hy => ?_⟩
  have := h3 y (by omega)
  unfold tv
  rw [e]
  omega
theorem Sq.len {n : Nat} {t : List (List Int)} (h : Sq n t) : t.length = n := h.1
theorem Sq.lt {n : Nat} {t : List (List Int)} (h : Sq n t) {x y : Nat} (hx : x < n) (hy : y < n) : tv t x y < n := ((h.2 x hx).2 y hy).1
theorem Sq.row {n : Nat} {t : List (List Int)} (h : Sq n t) {x : Nat} (hx : x < n) : (t.getD x []).length = n := (h.2 x hx).1
theorem Sq.val {n : Nat} {t : List (List Int)} (h : Sq n t) {x y : Nat} (hx : x < n) (hy : y < n) : (t.getD x []).getD y 0 = ((tv t x y : Nat) : Int) := ((h.2 x hx).2 y hy).2

/-! ### all of the numbers less than n -/
def allN (n : Nat) (P : Nat → Bool) : Bool := (List.range n).all P
theorem allN_zero (P : Nat → Bool) : allN 0 P = true := rfl
theorem allN_succ {n : Nat} {P : Nat → Bool} (h : allN n P = true) (h' : P n = true) : allN (n + 1) P = true := by
  unfold allN at *; rw [List.range_succ, List.all_append, h]; simp [h']
theorem allN_no {n k : Nat} {P : Nat → Bool} (hk : k < n) (h : P k = false) : allN n P = false := by
  unfold allN; rw [List.all_eq_false]; exact ⟨k, List.mem_range.2 hk, by simp [h]⟩
theorem allN_get {n k : Nat} {P : Nat → Bool} (h : allN n P = true) (hk : k < n) : P k = true := List.all_eq_true.1 h k (List.mem_range.2 hk)
theorem allN_congr {n : Nat} {P Q : Nat → Bool} (h : ∀ k, k < n → P k = Q k) : allN n P = allN n Q := by
  unfold allN
  rw [Bool.eq_iff_iff, List.all_eq_true, List.all_eq_true]
  constructor
  · intro hp k hk; rw [← h k (List.mem_range.1 hk)]; exact hp k hk
  · intro hp k hk; rw [h k (List.mem_range.1 hk)]; exact hp k hk

/-! ### the equation, and pairs that are led to one pair -/
/-- both sides of the equation at x, y, z -/
def eqAt (f g : List (List Int)) (x y z : Nat) : Bool :=
  let a1 := tv f x y; let b1 := tv g x y; let b2 := tv f b1 z; let c2 := tv g b1 z; let a3 := tv f a1 b2; let b3 := tv g a1 b2
  let e1 := tv f y z; let f1 := tv g y z; let d2 := tv f x e1; let e2 := tv g x e1; let e3 := tv f e2 f1; let f3 := tv g e2 f1
  (decide (a3 = d2) && decide (b3 = e3)) && decide (c2 = f3)
def eqOk (n : Nat) (f g : List (List Int)) : Bool := allN n fun x => allN n fun y => allN n fun z => eqAt f g x y z
/-- the pairs p and q are different, and are led to one -/
def collAt (n : Nat) (f g : List (List Int)) (p q : Nat) : Bool := (!decide (p = q)) && (decide (tv f (p / n) (p % n) = tv f (q / n) (q % n)) && decide (tv g (p / n) (p % n) = tv g (q / n) (q % n)))
def collOk (n : Nat) (f g : List (List Int)) : Bool := allN (n * n) fun p => allN (n * n) fun q => !collAt n f g p q
def isPm (f g : List (List Int)) : Bool := isTab f && (isTab g && decide (f.length = g.length))
def isSol (f g : List (List Int)) : Bool := isPm f g && (collOk f.length f g && eqOk f.length f g)

theorem isPm_sq {f g : List (List Int)} (h : isPm f g = true) : 1 ≤ f.length ∧ f.length ≤ 12 ∧ Sq f.length f ∧ Sq f.length g := by
  unfold isPm at h
  rw [Bool.and_eq_true, Bool.and_eq_true] at h
  obtain ⟨h1, h2, h3⟩ := isTab_sq h.1
  obtain ⟨_, _, h4⟩ := isTab_sq h.2.1
  have e : f.length = g.length := by simpa using h.2.2
  exact ⟨h1, h2, h3, by rw [e]; exact h4⟩
theorem isSol_pm {f g : List (List Int)} (h : isSol f g = true) : isPm f g = true := by
  unfold isSol at h; rw [Bool.and_eq_true] at h; exact h.1
theorem isSol_sq {f g : List (List Int)} (h : isSol f g = true) : 1 ≤ f.length ∧ f.length ≤ 12 ∧ Sq f.length f ∧ Sq f.length g := isPm_sq (isSol_pm h)

end Go.Proofs.Ythkpdodhkgdiaaa
