/-
  Braids at work: what the actions of products, of inverses and of periods answer, in plain lists.
  No condition.
-/
import Derived.Test.YtdkpalllfekiiaaGreatActP
import Derived.Test.YtdkpalllfekiiaaGreatBase2
import Derived.Test.YtdkpalllfekiiaaGreatTimI
namespace Go.Proofs.YtdkpalllfekiiaaGreat
set_option maxRecDepth 100000
set_option linter.unusedVariables false
set_option linter.unusedSimpArgs false

theorem isBr_of {s : Int} {xs : List Int} (h : 2 ≤ s ∧ s ≤ 6) (h2 : xs.length ≤ 30) (h3 : ∀ x ∈ xs, x ≠ 0 ∧ 1 - s ≤ x ∧ x ≤ s - 1) : isBr s xs = true := by
  have e1 : Go.RowKit.wrap64 (1 - s) = 1 - s := IntWalk.wrap64_in _ ⟨by omega, by omega⟩
  have e2 : Go.RowKit.wrap64 (s - 1) = s - 1 := IntWalk.wrap64_in _ ⟨by omega, by omega⟩
  simp only [isBr, Bool.and_eq_true, decide_eq_true_eq, List.all_eq_true]
  refine ⟨⟨⟨h.1, h.2⟩, h2⟩, fun x hx => ?_⟩
  have := h3 x hx
  simp only [isLet, e1, e2, Bool.and_eq_true, decide_eq_true_eq]
  exact ⟨this.1, this.2.1, this.2.2⟩
theorem br_plc {s : Nat} {xs : List Int} (h : isBr s xs = true) : ∀ x ∈ xs, x ≠ 0 ∧ (plc x).toNat + 1 < s := fun x hx => by
  have := (isBr_let h).2.2 x hx
  refine ⟨this.1, ?_⟩
  unfold plc
  split <;> omega
theorem ivL_br {s : Int} {xs : List Int} (h : isBr s xs = true) : isBr s (ivL xs) = true := by
  obtain ⟨h1, h2, h3⟩ := isBr_let h
  refine isBr_of h1 (by rw [ivL_len]; exact h2) fun x hx => ?_
  simp only [ivL, List.mem_reverse, List.mem_map] at hx
  obtain ⟨y, hy, rfl⟩ := hx
  have := h3 y hy
  exact ⟨by omega, by omega, by omega⟩
theorem all_less {n : Nat} {l : List Int} (h : Less n l) : l.all (rngB 0 ((n : Int) - 1)) = true := by
  rw [List.all_eq_true]
  intro x hx
  obtain ⟨i, hi, rfl⟩ := List.getElem_of_mem hx
  obtain ⟨k, hk, e⟩ := h i hi
  rw [List.getD_eq_getElem?_getD, List.getElem?_eq_getElem hi, Option.getD_some] at e
  unfold rngB
  rw [e, Bool.and_eq_true]
  exact ⟨by simp, by simp; omega⟩
theorem ckF_of {f g : List (List Int)} {s : Int} {xs l : List Int} (h1 : isSol f g = true) (h2 : isBr s xs = true) (h3 : (l.length : Int) = s) (h4 : Less f.length l) : ckF f g s xs l = 0 := by
  unfold ckF; rw [if_pos h1, if_pos h2, if_pos h3, if_pos (all_less h4)]
theorem bacF_of {f g : List (List Int)} {s : Int} {xs l : List Int} (h1 : isSol f g = true) (h2 : isBr s xs = true) (h3 : (l.length : Int) = s) (h4 : Less f.length l) : bacF f g s xs l = (actL f.length f g xs l, 0) := by
  unfold bacF; rw [if_pos (ckF_of h1 h2 h3 h4)]
/-- what the law of actions asks of one braid and one list -/
theorem bac_facts (f g : List (List Int)) (s : Int) (xs l : List Int) :
    (∃ C, bacF f g s xs l = ([], C) ∧ C ≠ 0) ∨
    ∃ O, bacF f g s xs l = (O, 0) ∧ isBr s xs = true ∧ I64s O ∧ bacF f g s (ivL xs) O = (l, 0) ∧ O.length = l.length ∧ l.length ≤ 6 ∧ I64s l ∧
      ((timF s xs s xs = (0, [], 3)) ∨ ∃ Z, timF s xs s xs = (s, xs ++ xs, 0) ∧ bacF f g s (xs ++ xs) l = (Z, 0) ∧ bacF f g s xs O = (Z, 0)) := by
  by_cases h : ckF f g s xs l = 0
  · right
    obtain ⟨h1, h2, h3, h4⟩ := ckF_zero h
    obtain ⟨hn1, hn12, sf, sg⟩ := isSol_sq h1
    have hc := isSol_coll h1
    obtain ⟨b1, b2, b3⟩ := isBr_let h2
    obtain ⟨S, rfl⟩ : ∃ S : Nat, s = S := ⟨s.toNat, by omega⟩
    have hp := br_plc h2
    have hl : l.length = S := by omega
    have hO := h4.act hn1 sf sg hc xs fun x hx => by rw [hl]; exact (hp x hx).2
    have hOl : (actL f.length f g xs l).length = S := by rw [actL_len]; exact hl
    have i64 : ∀ q : List Int, Less f.length q → I64s q := fun q hq x hx => by
      obtain ⟨i, hi, rfl⟩ := List.getElem_of_mem hx
      obtain ⟨k, hk, e⟩ := hq i hi
      rw [List.getD_eq_getElem?_getD, List.getElem?_eq_getElem hi, Option.getD_some] at e
      rw [e]; exact ⟨by omega, by omega⟩
    refine ⟨_, bacF_of h1 h2 h3 h4, h2, i64 _ hO, ?_, by rw [hOl, hl], by omega, i64 _ h4, ?_⟩
    · rw [bacF_of h1 (ivL_br h2) (by omega) hO, act_back hn1 sf sg hc xs l (fun x hx => by rw [hl]; exact hp x hx) h4]
    · by_cases h30 : xs.length + xs.length ≤ 30
      · right
        have hb2 : isBr S (xs ++ xs) = true := isBr_of b1 (by simpa using h30) fun x hx => by
          rcases List.mem_append.1 hx with hx | hx <;> exact b3 x hx
        refine ⟨_, by unfold timF; simp [h2, h30], bacF_of h1 hb2 h3 h4, ?_⟩
        rw [bacF_of h1 h2 (by omega) hO, actL_app]
      · left
        unfold timF; simp [h2, h30]
  · left
    exact ⟨ckF f g s xs l, by unfold bacF; rw [if_neg h], h⟩
/-- .. and of the period -/
theorem per_facts (f g : List (List Int)) (s : Int) (xs : List Int) :
    (∃ p C, bpF f g s xs = (p, C) ∧ C ≠ 0) ∨
    ∃ (S p : Nat), s = S ∧ bpF f g s xs = ((p : Int), 0) ∧ p ≤ 1000000000 ∧ 2 ≤ S ∧ S ≤ 6 ∧ isBr S xs = true ∧ 1 ≤ f.length ∧ (∀ l : List Int, l.length = S → Less f.length l → actM f.length f g xs p l = l) ∧
      ∀ l : List Int, l.length = S → Less f.length l → bacF f g S xs l = (actL f.length f g xs l, 0) ∧ (actL f.length f g xs l).length = S ∧ Less f.length (actL f.length f g xs l) := by
  rcases hE : bpF f g s xs with ⟨p, C⟩
  by_cases hC : C = 0
  · right
    subst hC
    have hs : 0 ≤ s := by
      cases q1 : isSol f g with
      | false => rw [bpF_0 q1] at hE; simp at hE
      | true =>
        cases q2 : isBr s xs with
        | false => rw [bpF_1 q1 q2] at hE; simp at hE
        | true => have := (isBr_let q2).1; omega
    obtain ⟨S, rfl⟩ : ∃ S : Nat, s = S := ⟨s.toNat, by omega⟩
    obtain ⟨h1, h2, p1, p2, hb⟩ := per_back hE fun hb x hx => (br_plc hb x hx).2
    have hs := (isBr_let h2).1
    obtain ⟨hn1, hn12, sf, sg⟩ := isSol_sq h1
    have hc := isSol_coll h1
    refine ⟨S, p.toNat, rfl, by rw [Int.toNat_of_nonneg (by omega)], by omega, by omega, by omega, h2, hn1, hb, fun l hl h4 => ⟨bacF_of h1 h2 (by omega) h4, by rw [actL_len]; exact hl, h4.act hn1 sf sg hc xs fun x hx => by rw [hl]; exact (br_plc h2 x hx).2⟩⟩
  · exact .inl ⟨p, C, rfl, hC⟩
end Go.Proofs.YtdkpalllfekiiaaGreat
