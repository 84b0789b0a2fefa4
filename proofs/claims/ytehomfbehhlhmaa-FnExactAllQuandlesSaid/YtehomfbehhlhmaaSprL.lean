/-
  Rows of a rack that follow from others, in plain lists.
  No condition.
-/
import Derived.Test.YtehomfbehhlhmaaThen
import Derived.Test.YtehomfbehhlhmaaBPerm
import Derived.Test.YtehomfbehhlhmaaBase
namespace Go.Proofs.Ytehomfbehhlhmaa
set_option maxRecDepth 100000
set_option linter.unusedVariables false
set_option linter.unusedSimpArgs false

theorem thL_isP {n : Nat} {p q : List Int} (h : IsP n p) (k : IsP n q) : IsP n (thL p q) := by
  obtain ⟨f, g, hl, h1, h2⟩ := h
  obtain ⟨f', g', hl', h1', h2'⟩ := k
  refine ⟨fun i => f' (f i), fun i => g (g' i), by rw [thL_len]; exact hl, fun i hi => ?_, fun i hi => ?_⟩
  · have a1 := h1 i hi
    have a2 := h1' i hi
    have a3 := h1' (f i) a1.1
    have a4 := h1 (g' i) a2.2.1
    refine ⟨a3.1, a4.2.1, ?_, ?_⟩
    · show f' (f (g (g' i))) = i
      rw [a4.2.2.1, a2.2.2.1]
    · show g (g' (f' (f i))) = i
      rw [a3.2.2.2, a1.2.2.2]
  · have hp : i < p.length := by omega
    have e : (thL p q).getD i 0 = q.getD (p.getD i 0).toNat 0 := by
      simp [thL, List.getD_eq_getElem?_getD, List.getElem?_eq_getElem hp]
    rw [e, h2 i hi, Int.toNat_natCast, h2' (f i) (h1 i hi).1]
theorem cjL_isP {n : Nat} {p q : List Int} (h : IsP n p) (k : IsP n q) : IsP n (cjL p q) := thL_isP (thL_isP (back_isP h) k) h

/-- a row that is not known yet is empty -/
def RwOk (n : Nat) (r : List Int) : Prop := r = [] ∨ IsP n r
def RwsOk (n : Nat) (o : List (List Int)) : Prop := o.length = n ∧ ∀ i, i < n → RwOk n (o.getD i [])
/-- one pair of rows: the row that follows, or a contradiction -/
def sprT (o : List (List Int)) (x y : Nat) : Option (List (List Int) × Bool) :=
  if (o.getD x []) = [] ∨ (o.getD y []) = [] then some (o, false)
  else (fun (z : Nat) (want : List Int) => if o.getD z [] = [] then some (o.set z want, true) else if o.getD z [] = want then some (o, false) else none)
    ((o.getD x []).getD y 0).toNat (cjL (o.getD x []) (o.getD y []))
/-- the pairs of row x, the first ones -/
def sprR (x : Nat) : Nat → List (List Int) × Bool → Option (List (List Int) × Bool)
  | 0, s => some s
  | k + 1, s => (sprR x k s).bind fun s' => (sprT s'.1 x k).map fun t => (t.1, s'.2 || t.2)
/-- all pairs of the first rows -/
def sprA (n : Nat) : Nat → List (List Int) × Bool → Option (List (List Int) × Bool)
  | 0, s => some s
  | k + 1, s => (sprA n k s).bind fun s' => sprR k n s'
/-- until nothing follows any more -/
def sprF (n : Nat) : Nat → List (List Int) → Option (List (List Int))
  | 0, o => none
  | f + 1, o => (sprA n n (o, false)).bind fun s => if s.2 then sprF n f s.1 else some s.1
def empC (o : List (List Int)) : Nat := o.countP fun r => r.isEmpty
def sprL (o : List (List Int)) : Option (List (List Int)) := sprF o.length (o.length + 1) o

theorem RwsOk.set {n : Nat} {o : List (List Int)} (h : RwsOk n o) (z : Nat) {r : List Int} (hr : RwOk n r) : RwsOk n (o.set z r) := by
  refine ⟨by rw [List.length_set]; exact h.1, fun i hi => ?_⟩
  rw [getD_set' o z i r [] (by rw [h.1]; exact hi)]
  split
  · exact hr
  · exact h.2 i hi
theorem empC_set {o : List (List Int)} {z : Nat} {r : List Int} (hz : z < o.length) (he : o.getD z [] = []) (hr : r ≠ []) : empC (o.set z r) + 1 = empC o := by
  induction o generalizing z with
  | nil => simp at hz
  | cons a o ih =>
    cases z with
    | zero =>
      have : a = [] := by simpa using he
      subst this
      have h2 : r.isEmpty = false := by cases r with
        | nil => exact absurd rfl hr
        | cons _ _ => rfl
      simp [empC, List.countP_cons, h2]
    | succ z =>
      have := ih (z := z) (by simpa using hz) (by simpa using he)
      unfold empC at *
      rw [List.set_cons_succ, List.countP_cons, List.countP_cons]
      omega
theorem IsP.ne {n : Nat} {r : List Int} (hn : 0 < n) (h : IsP n r) : r ≠ [] := fun e => by have := h.len; rw [e] at this; simp at this; omega
theorem IsP.at {n : Nat} {r : List Int} (h : IsP n r) {y : Nat} (hy : y < n) : ∃ z : Nat, r.getD y 0 = z ∧ z < n := by
  obtain ⟨f, g, hl, h1, h2⟩ := h
  exact ⟨f y, h2 y hy, (h1 y hy).1⟩
/-- what one pair leaves -/
theorem sprT_ok {n : Nat} {o o' : List (List Int)} {b : Bool} {x y : Nat} (hn : 0 < n) (h : RwsOk n o) (hx : x < n) (hy : y < n) (e : sprT o x y = some (o', b)) : RwsOk n o' ∧ empC o' + (if b then 1 else 0) ≤ empC o := by
  unfold sprT at e
  split at e
  · cases e; exact ⟨h, by simp⟩
  · rename_i hne
    simp only at e
    have hpx := (h.2 x hx).resolve_left (fun h => hne (.inl h))
    have hpy := (h.2 y hy).resolve_left (fun h => hne (.inr h))
    have hc := cjL_isP hpx hpy
    obtain ⟨z, hz, hzn⟩ := hpx.at hy
    rw [hz, Int.toNat_natCast] at e
    split at e
    · rename_i hemp
      cases e
      refine ⟨h.set z (.inr hc), ?_⟩
      have := empC_set (o := o) (by rw [h.1]; exact hzn) hemp (IsP.ne hn hc)
      simp only [if_true]; omega
    · split at e
      · cases e; exact ⟨h, by simp⟩
      · cases e
theorem sprR_ok {n : Nat} {x : Nat} (hn : 0 < n) (hx : x < n) : ∀ (k : Nat) (s s' : List (List Int) × Bool), k ≤ n → RwsOk n s.1 → sprR x k s = some s' → RwsOk n s'.1 ∧ empC s'.1 + (if s'.2 then 1 else 0) ≤ empC s.1 + (if s.2 then 1 else 0) := by
  intro k
  induction k with
  | zero => intro s s' _ h e; cases e; exact ⟨h, Nat.le_refl _⟩
  | succ k ih =>
    intro s s' hk h e
    unfold sprR at e
    cases h1 : sprR x k s with
    | none => rw [h1] at e; cases e
    | some t =>
      rw [h1] at e
      have i1 := ih s t (by omega) h h1
      cases h2 : sprT t.1 x k with
      | none => simp [h2] at e
      | some u =>
        simp [h2] at e
        subst e
        have i2 := sprT_ok (b := u.2) hn i1.1 hx (by omega) h2
        refine ⟨i2.1, ?_⟩
        have a1 := i1.2
        have a2 := i2.2
        simp only
        cases ht : t.2 <;> cases hu : u.2 <;> simp [ht, hu] at * <;> omega
theorem sprA_ok {n : Nat} (hn : 0 < n) : ∀ (k : Nat) (s s' : List (List Int) × Bool), k ≤ n → RwsOk n s.1 → sprA n k s = some s' → RwsOk n s'.1 ∧ empC s'.1 + (if s'.2 then 1 else 0) ≤ empC s.1 + (if s.2 then 1 else 0) := by
  intro k
  induction k with
  | zero => intro s s' _ h e; cases e; exact ⟨h, Nat.le_refl _⟩
  | succ k ih =>
    intro s s' hk h e
    unfold sprA at e
    cases h1 : sprA n k s with
    | none => rw [h1] at e; cases e
    | some t =>
      rw [h1] at e
      have i1 := ih s t (by omega) h h1
      have i2 := sprR_ok hn (by omega) n t s' (Nat.le_refl _) i1.1 e
      exact ⟨i2.1, Nat.le_trans i2.2 i1.2⟩
/-- more rounds than there are empty rows: enough -/
theorem sprF_more {n : Nat} (hn : 0 < n) : ∀ (f : Nat) (o : List (List Int)), RwsOk n o → empC o < f → sprF n (f + 1) o = sprF n f o := by
  intro f
  induction f with
  | zero => intro o _ h; omega
  | succ f ih =>
    intro o h hf
    show (sprA n n (o, false)).bind _ = (sprA n n (o, false)).bind _
    cases h1 : sprA n n (o, false) with
    | none => rfl
    | some s =>
      show (if s.2 then sprF n (f + 1) s.1 else some s.1) = (if s.2 then sprF n f s.1 else some s.1)
      cases hs : s.2 with
      | false => rfl
      | true =>
        have := sprA_ok hn n _ _ (Nat.le_refl _) h h1
        rw [hs] at this
        simp at this
        simp only [if_true]
        exact ih s.1 this.1 (by omega)
theorem sprF_ok {n : Nat} (hn : 0 < n) : ∀ (f : Nat) (o o' : List (List Int)), RwsOk n o → sprF n f o = some o' → RwsOk n o' ∧ empC o' ≤ empC o := by
  intro f
  induction f with
  | zero => intro o o' _ h; cases h
  | succ f ih =>
    intro o o' h e
    unfold sprF at e
    cases h1 : sprA n n (o, false) with
    | none => rw [h1] at e; cases e
    | some s =>
      rw [h1] at e
      have i1 := sprA_ok hn n _ _ (Nat.le_refl _) h h1
      simp at i1 e
      cases hs : s.2 with
      | false => simp [hs] at e; subst e; exact ⟨i1.1, by omega⟩
      | true =>
        simp [hs] at e
        have i2 := ih _ _ i1.1 e
        exact ⟨i2.1, by omega⟩
end Go.Proofs.Ytehomfbehhlhmaa
