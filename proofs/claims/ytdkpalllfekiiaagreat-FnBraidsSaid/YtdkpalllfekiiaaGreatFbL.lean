/-
  What the law of equal braids asks, in plain lists.
  No condition.
-/
import Derived.Test.YtdkpalllfekiiaaGreatRepB
import Derived.Test.YtdkpalllfekiiaaGreatGuiL
import Derived.Test.YtdkpalllfekiiaaGreatBacL
import Derived.Test.YtdkpalllfekiiaaGreatRedI
import Derived.Test.YtdkpalllfekiiaaGreatTimI
import Derived.Test.YtdkpalllfekiiaaGreatHwL
namespace Go.Proofs.YtdkpalllfekiiaaGreat
set_option maxRecDepth 100000
set_option linter.unusedVariables false
set_option linter.unusedSimpArgs false

theorem solP_of {f g : List (List Int)} (h : isSol f g = true) : SolP f.length f g := by
  obtain ⟨h1, _, sf, sg⟩ := isSol_sq h
  have he : eqOk f.length f g = true := by
    unfold isSol at h
    simp only [Bool.and_eq_true] at h
    exact h.2.2
  exact ⟨h1, sf, sg, isSol_coll h, fun x y z hx hy hz => eqOk_at he hx hy hz⟩
theorem fbr_facts (S T : Int) (ys zs : List Int) :
    (isBr S ys && isBr T zs && decide (S = T)) = false ∨ ∃ (N : Nat) (r r' : Int × List (List Int)), S = N ∧ T = N ∧ isBr N ys = true ∧ isBr N zs = true ∧ NFo N (begS N (0, []) ys) r ∧ NFo N (begS N (0, []) zs) r' ∧
      (r = r' → brP N ys = brP N zs ∧ sgS ys = sgS zs ∧ ∀ f g, isSol f g = true → ∀ l : List Int, l.length = N → Less f.length l → bacF f g N ys l = (actL f.length f g ys l, 0) ∧ bacF f g N zs l = (actL f.length f g ys l, 0)) := by
  cases h : (isBr S ys && isBr T zs && decide (S = T)) with
  | false => exact .inl rfl
  | true =>
    right
    simp only [Bool.and_eq_true, decide_eq_true_eq] at h
    obtain ⟨⟨h1, h2⟩, rfl⟩ := h
    have h26 := (isBr_let h1).1
    obtain ⟨N, rfl⟩ : ∃ N : Nat, S = N := ⟨S.toNat, by omega⟩
    obtain ⟨r, hr⟩ := br_nfo h1
    obtain ⟨r', hr'⟩ := br_nfo h2
    refine ⟨N, r, r', rfl, rfl, h1, h2, hr, hr', ?_⟩
    rintro rfl
    have l1 := (br_ltr h1).2.2.2
    have l2 := (br_ltr h2).2.2.2
    refine ⟨brP_same l1 l2 hr hr', sgS_same l1 l2 hr hr', fun f g hs l hl hle => ?_⟩
    have e1 := bacF_of hs h1 (by rw [hl]) hle
    have e2 := bacF_of hs h2 (by rw [hl]) hle
    exact ⟨e1, by rw [e2, act_same (solP_of hs) l1 l2 hr hr' hl hle]⟩
/-! ### a braid and its inverse -/
def RedW (l : List Int) : Prop := ∀ i, i + 1 < l.length → l.getD (i + 1) 0 ≠ -l.getD i 0
theorem redW_redF {l : List Int} (h : RedW l) (x : Int) : RedW (redF l x) := by
  by_cases c : l.length = 0 ∨ l.getD (l.length - 1) 0 ≠ -x
  · rw [redF_no c]
    intro i hi
    rw [List.length_append, List.length_singleton] at hi
    by_cases e : i + 1 < l.length
    · rw [List.getD_eq_getElem?_getD, List.getElem?_append_left e, ← List.getD_eq_getElem?_getD, List.getD_eq_getElem?_getD (l := l ++ [x]), List.getElem?_append_left (by omega), ← List.getD_eq_getElem?_getD]
      exact h i e
    · have ei : i + 1 = l.length := by omega
      have e1 : (l ++ [x]).getD (i + 1) 0 = x := by rw [ei]; simp [List.getD_eq_getElem?_getD]
      have e2 : (l ++ [x]).getD i 0 = l.getD (l.length - 1) 0 := by
        rw [List.getD_eq_getElem?_getD, List.getElem?_append_left (by omega), ← List.getD_eq_getElem?_getD]; congr 1; omega
      rw [e1, e2]
      rcases c with c | c
      · omega
      · intro e3; exact c (by omega)
  · have hl : l.length ≠ 0 := fun e => c (.inl e)
    have hx : l.getD (l.length - 1) 0 = -x := Classical.byContradiction fun e => c (.inr e)
    rw [redF_yes (q := l.length - 1) (by omega) hx]
    intro i hi
    rw [List.length_take] at hi
    have := h i (by omega)
    have t : ∀ j, j < l.length - 1 → (l.take (l.length - 1)).getD j 0 = l.getD j 0 := fun j hj => by rw [List.getD_eq_getElem?_getD, List.getElem?_take, if_pos hj, ← List.getD_eq_getElem?_getD]
    rw [t _ (by omega), t _ (by omega)]
    exact this
theorem redF_back {l : List Int} (h : RedW l) {x : Int} (hx : x ≠ 0) : redF (redF l x) (-x) = l := by
  by_cases c : l.length = 0 ∨ l.getD (l.length - 1) 0 ≠ -x
  · rw [redF_no c]
    have hl : (l ++ [x]).length = l.length + 1 := by simp
    rw [redF_yes (q := l.length) hl (by simp [List.getD_eq_getElem?_getD])]
    simp
  · have hl : l.length ≠ 0 := fun e => c (.inl e)
    have hx' : l.getD (l.length - 1) 0 = -x := Classical.byContradiction fun e => c (.inr e)
    obtain ⟨q, hq⟩ : ∃ q, l.length = q + 1 := ⟨l.length - 1, by omega⟩
    rw [show l.length - 1 = q by omega] at hx'
    rw [redF_yes hq hx']
    have hlt : (l.take q).length = q := by rw [List.length_take]; omega
    rw [redF_no (by
      by_cases e : q = 0
      · left; omega
      · right
        rw [hlt]
        have := h (q - 1) (by omega)
        rw [show q - 1 + 1 = q by omega, hx'] at this
        have e2 : (l.take q).getD (q - 1) 0 = l.getD (q - 1) 0 := by simp [List.getD_eq_getElem?_getD, List.getElem?_take, show q - 1 < q by omega]
        rw [e2]
        intro e3; exact this (by omega))]
    have e4 : l = l.take q ++ [l.getD q 0] := by
      have h1 := List.take_succ_eq_append_getElem (l := l) (i := q) (by omega)
      rw [List.take_of_length_le (by omega)] at h1
      rw [List.getD_eq_getElem?_getD, List.getElem?_eq_getElem (by omega)]
      exact h1
    rw [hx'] at e4
    exact e4.symm
theorem redW_fold : ∀ (xs : List Int) (l : List Int), RedW l → RedW (xs.foldl redF l) := by
  intro xs
  induction xs with
  | nil => intro l h; exact h
  | cons x xs ih => intro l h; exact ih _ (redW_redF h x)
theorem red_back : ∀ (xs l : List Int), RedW l → (∀ x ∈ xs, x ≠ 0) → (ivL xs).foldl redF (xs.foldl redF l) = l := by
  intro xs
  induction xs with
  | nil => intro l _ _; rfl
  | cons x xs ih =>
    intro l h hx
    have e : ivL (x :: xs) = ivL xs ++ [-x] := by unfold ivL; simp
    have e2 : (x :: xs).foldl redF l = xs.foldl redF (redF l x) := rfl
    rw [e, List.foldl_append, e2, ih _ (redW_redF h x) fun y hy => hx y (by simp [hy])]
    exact redF_back h (hx x (by simp))
theorem red_inv {xs : List Int} (hx : ∀ x ∈ xs, x ≠ 0) : redL (xs ++ ivL xs) = [] := by
  unfold redL
  rw [List.foldl_append]
  exact red_back xs [] (fun i hi => absurd hi (by simp)) hx
theorem isBr_nil {N : Nat} (h1 : 2 ≤ N) (h2 : N ≤ 6) : isBr N [] = true := ltr_br h1 h2 (fun x hx => by cases hx) (by simp)
theorem inv_facts2 {N : Nat} {ys : List Int} (h : isBr N ys = true) : timF N ys N (ivL ys) = (0, [], 3) ∨ (timF N ys N (ivL ys) = ((N : Int), ys ++ ivL ys, 0) ∧ isBr N (ys ++ ivL ys) = true ∧ isBr N [] = true ∧ redL (ys ++ ivL ys) = [] ∧ ∃ r, NFo N (begS N (0, []) (ys ++ ivL ys)) r ∧ NFo N (begS N (0, []) []) r) := by
  obtain ⟨h2, h6, h30, hl⟩ := br_ltr h
  have hv := ivL_br h
  by_cases c : ys.length + (ivL ys).length ≤ 30
  · right
    have hb : isBr N (ys ++ ivL ys) = true := ltr_br h2 h6 (fun x hx => by rcases List.mem_append.1 hx with q | q; exact hl x q; exact (br_ltr hv).2.2.2 x q) (by simpa using c)
    have hn := isBr_nil h2 h6
    obtain ⟨r, hr⟩ := br_nfo hb
    obtain ⟨r', hr'⟩ := br_nfo hn
    have F0 : AFx N ((0, []) : Stt).2 := fun p hp => by cases hp
    have hs : Sim N (begS N (0, []) (ys ++ ivL ys)) (begS N (0, []) []) := by
      rw [beg_app]
      exact inv_sim ys _ F0 hl
    obtain rfl : r = r' := nfo_sim h2 (br_fx hb) (br_fx hn) hs hr hr'
    refine ⟨?_, hb, hn, red_inv fun x hx => (hl x hx).1, r, hr, hr'⟩
    unfold timF
    rw [h, hv]; simp; omega
  · left
    unfold timF
    rw [h, hv]; simp; omega
end Go.Proofs.YtdkpalllfekiiaaGreat
