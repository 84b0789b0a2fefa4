/-
  What makes a comparison an order; lists of numbers are in one.
  No condition.
-/
import Derived.Test.YtnlgmhckjpifiaaGreatBase
namespace Go.Proofs.YtnlgmhckjpifiaaGreat
set_option maxRecDepth 100000
set_option linter.unusedVariables false
set_option linter.unusedSimpArgs false

/-- what makes a comparison an order -/
structure Cmp {α : Type} (c : α → α → Int) : Prop where
  eq : ∀ x y, c x y = 0 ↔ x = y
  anti : ∀ x y, c y x = - c x y
  trans : ∀ x y z, c x y < 0 → c y z < 0 → c x z < 0
theorem cmpI_cmp : Cmp cmpI := by
  refine ⟨fun x y => cmpI_eq, fun x y => ?_, fun x y z h1 h2 => ?_⟩
  · unfold cmpI
    by_cases h1 : x < y
    · rw [if_pos h1, if_neg (by omega), if_pos h1]; rfl
    · by_cases h2 : y < x
      · simp [h1, h2]
      · simp [h1, h2]
  · unfold cmpI at *
    split at h1
    · split at h2
      · rw [if_pos (by omega)]; omega
      · split at h2 <;> omega
    · split at h1 <;> omega
theorem cmpG_cmp {α : Type} {c : α → α → Int} (h : Cmp c) : Cmp (cmpG c) := by
  refine ⟨cmpG_eq h.eq, ?_, ?_⟩
  · intro xs
    induction xs with
    | nil => intro ys; cases ys <;> simp [cmpG]
    | cons x xs ih =>
      intro ys
      cases ys with
      | nil => simp [cmpG]
      | cons y ys =>
        simp only [cmpG]
        have h1 := h.anti x y
        by_cases e : c x y = 0
        · rw [if_pos e, if_pos (by omega)]; exact ih ys
        · rw [if_neg e, if_neg (by omega)]; exact h1
  · intro xs
    induction xs with
    | nil =>
      intro ys zs h1 h2
      cases ys with
      | nil => exact h2
      | cons y ys => cases zs with
        | nil => simp [cmpG] at h2
        | cons z zs => simp [cmpG]
    | cons x xs ih =>
      intro ys zs h1 h2
      cases ys with
      | nil => simp [cmpG] at h1
      | cons y ys =>
        cases zs with
        | nil => simp [cmpG] at h2
        | cons z zs =>
          simp only [cmpG] at *
          by_cases e1 : c x y = 0
          · rw [if_pos e1] at h1
            have : x = y := (h.eq _ _).1 e1
            subst this
            by_cases e2 : c x z = 0
            · rw [if_pos e2] at h2 ⊢; exact ih _ _ h1 h2
            · rw [if_neg e2] at h2 ⊢; exact h2
          · rw [if_neg e1] at h1
            by_cases e2 : c y z = 0
            · have : y = z := (h.eq _ _).1 e2
              subst this
              rw [if_neg e1]; exact h1
            · rw [if_neg e2] at h2
              have h3 := h.trans x y z h1 h2
              rw [if_neg (by omega)]; exact h3
theorem cmpL_cmp : Cmp cmpL := cmpG_cmp cmpI_cmp
theorem Cmp.refl {α : Type} {c : α → α → Int} (h : Cmp c) (x : α) : c x x = 0 := (h.eq x x).2 rfl
end Go.Proofs.YtnlgmhckjpifiaaGreat
