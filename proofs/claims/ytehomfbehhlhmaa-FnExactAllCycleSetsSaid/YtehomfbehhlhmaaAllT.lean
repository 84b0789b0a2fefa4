/-
  All tables whose rows are of a list; those that a check of the first rows lets by.
  No condition.
-/
import Derived.Test.YtehomfbehhlhmaaRowL
namespace Go.Proofs.Ytehomfbehhlhmaa
set_option maxRecDepth 100000
set_option linter.unusedVariables false
set_option linter.unusedSimpArgs false

/-- all tables that go on with some rows, m more -/
def allT (ps : List (List Int)) : Nat → List (List Int) → List (List (List Int))
  | 0, o => [o]
  | m + 1, o => ps.flatMap fun p => allT ps m (o ++ [p])
theorem allT_mem {ps : List (List Int)} : ∀ (m : Nat) (o t : List (List Int)), t ∈ allT ps m o → ∃ r, t = o ++ r ∧ r.length = m ∧ ∀ p ∈ r, p ∈ ps := by
  intro m
  induction m with
  | zero => intro o t h; simp [allT] at h; exact ⟨[], by simp [h], rfl, by simp⟩
  | succ m ih =>
    intro o t h
    simp only [allT, List.mem_flatMap] at h
    obtain ⟨p, hp, ht⟩ := h
    obtain ⟨r, h1, h2, h3⟩ := ih _ _ ht
    exact ⟨p :: r, by rw [h1]; simp, by simp [h2], fun q hq => by
      rcases List.mem_cons.1 hq with e | e
      · rw [e]; exact hp
      · exact h3 q e⟩
theorem filter_flatMap' {α β : Type} (l : List α) (f : α → List β) (p : β → Bool) : (l.flatMap f).filter p = l.flatMap fun a => (f a).filter p := by
  induction l with
  | nil => rfl
  | cons a l ih => simp [List.flatMap_cons, List.filter_append, ih]
theorem flatMap_congr' {α β : Type} {l : List α} {f g : α → List β} (h : ∀ a ∈ l, f a = g a) : l.flatMap f = l.flatMap g := by
  induction l with
  | nil => rfl
  | cons a l ih => rw [List.flatMap_cons, List.flatMap_cons, h a (by simp), ih fun b hb => h b (by simp [hb])]
theorem filter_none {α : Type} {l : List α} {p : α → Bool} (h : ∀ a ∈ l, p a = false) : l.filter p = [] := by
  rw [List.filter_eq_nil_iff]; intro a ha; rw [h a ha]; simp
theorem rowG_filter {ps : List (List Int)} {fits : List (List Int) → Bool} (hm : ∀ o r, fits (o ++ r) = true → fits o = true) : ∀ (m : Nat) (o : List (List Int)), rowG ps fits (m + 1) o = (allT ps (m + 1) o).filter fits := by
  intro m
  induction m with
  | zero =>
    intro o
    unfold rowG allT
    rw [filter_flatMap']
    refine flatMap_congr' fun p _ => ?_
    unfold rowG allT
    cases h : fits (o ++ [p]) <;> simp [h]
  | succ m ih =>
    intro o
    have e1 : rowG ps fits (m + 1 + 1) o = ps.flatMap fun p => if fits (o ++ [p]) then rowG ps fits (m + 1) (o ++ [p]) else [] := rfl
    have e2 : allT ps (m + 1 + 1) o = ps.flatMap fun p => allT ps (m + 1) (o ++ [p]) := rfl
    rw [e1, e2, filter_flatMap']
    refine flatMap_congr' fun p _ => ?_
    cases h : fits (o ++ [p]) with
    | true => rw [if_pos rfl, ih]
    | false =>
      rw [if_neg (by simp)]
      symm
      refine filter_none fun t ht => ?_
      obtain ⟨r, h1, _, _⟩ := allT_mem _ _ _ ht
      cases e : fits t with
      | false => rfl
      | true => rw [h1] at e; rw [hm _ _ e] at h; cases h
theorem rowL_filter {n : Nat} (h1 : 1 ≤ n) {fits : List (List Int) → Bool} (hm : ∀ o r, fits (o ++ r) = true → fits o = true) : rowL n fits = (allT (prmL n) n []).filter fits := by
  obtain ⟨m, rfl⟩ : ∃ m, n = m + 1 := ⟨n - 1, by omega⟩
  exact rowG_filter hm m []
theorem filter_congr' {α : Type} {l : List α} {p q : α → Bool} (h : ∀ a ∈ l, p a = q a) : l.filter p = l.filter q := List.filter_congr h
end Go.Proofs.Ytehomfbehhlhmaa
