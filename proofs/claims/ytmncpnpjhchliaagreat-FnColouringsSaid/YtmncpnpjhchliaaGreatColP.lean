/-
  Conjugate braids, and stabilized braids where the solution is a quandle's, lead as many tuples to themselves; in plain lists.
  No condition.
-/
import Derived.Test.YtmncpnpjhchliaaGreatActP
import Derived.Test.YtmncpnpjhchliaaGreatBase5
import Derived.Test.YtmncpnpjhchliaaGreatBase3
namespace Go.Proofs.YtmncpnpjhchliaaGreat
set_option maxRecDepth 100000
set_option linter.unusedVariables false
set_option linter.unusedSimpArgs false

/-- a tuple that is led to itself -/
def FixT (n s : Nat) (f g : List (List Int)) (xs l : List Int) : Prop := l.length = s ∧ Less n l ∧ actL n f g xs l = l
theorem cols_mem {n s : Nat} {f g : List (List Int)} {xs l : List Int} (hn : 1 ≤ n) : l ∈ colsL n s f g xs ↔ FixT n s f g xs l := by
  unfold colsL colsK
  rw [List.mem_map]
  constructor
  · rintro ⟨N, hN, rfl⟩
    have := (List.mem_filter.1 hN).2
    unfold colAt at this
    exact ⟨digL_len n s N, digL_less n s N hn, of_decide_eq_true this⟩
  · rintro ⟨h1, h2, h3⟩
    have hd := digL_num hn h1 h2
    refine ⟨numL n l, List.mem_filter.2 ⟨List.mem_range.2 (by have := numL_lt hn h2; rw [h1] at this; exact this), ?_⟩, hd⟩
    unfold colAt
    rw [hd]
    exact decide_eq_true h3
theorem cols_nd {n s : Nat} {f g : List (List Int)} {xs : List Int} : (colsL n s f g xs).Nodup := by
  unfold colsL colsK
  rw [List.nodup_iff_pairwise_ne, List.pairwise_map]
  refine List.Pairwise.imp_of_mem ?_ (List.Pairwise.filter _ List.pairwise_lt_range)
  intro a b ha hb hab e
  have h1 := numL_dig s a (List.mem_range.1 (List.mem_filter.1 ha).1)
  have h2 := numL_dig s b (List.mem_range.1 (List.mem_filter.1 hb).1)
  rw [e] at h1
  omega
theorem bij_len {A B : List (List Int)} (hA : A.Nodup) (hB : B.Nodup) (F : List Int → List Int) (inj : ∀ x ∈ A, ∀ y ∈ A, F x = F y → x = y) (h : ∀ b, b ∈ B ↔ ∃ a ∈ A, F a = b) : A.length = B.length := by
  have hnd : (A.map F).Nodup := by
    rw [List.nodup_iff_pairwise_ne, List.pairwise_map]
    refine List.Pairwise.imp_of_mem ?_ (List.nodup_iff_pairwise_ne.1 hA)
    intro a b ha hb hab e
    exact hab (inj a ha b hb e)
  have hp : (A.map F).Perm B := (List.perm_ext_iff_of_nodup hnd hB).2 fun a => by rw [List.mem_map, h]
  have := hp.length_eq
  rw [List.length_map] at this
  exact this
section
variable {n : Nat} {f g : List (List Int)}
theorem step_forth (hn : 1 ≤ n) (hf : Sq n f) (hg : Sq n g) (hc : collOk n f g = true) {x : Int} {l : List Int} (hx : x ≠ 0) (hi : (plc x).toNat + 1 < l.length) (h : Less n l) : stepL n f g x (stepL n f g (-x) l) = l := by
  have := step_back hn hf hg hc (x := -x) (l := l) (by omega) (by rw [plc_neg hx]; exact hi) h
  rw [Int.neg_neg] at this
  exact this
theorem conj_cnt (hn : 1 ≤ n) (hf : Sq n f) (hg : Sq n g) (hc : collOk n f g = true) {s : Nat} {xs : List Int} {x : Int} (hx : x ≠ 0) (hp : (plc x).toNat + 1 < s) (hxs : ∀ y ∈ xs, (plc y).toNat + 1 < s) : (colsL n s f g ([x] ++ xs ++ [-x])).length = (colsL n s f g xs).length := by
  have hw : ∀ l, actL n f g ([x] ++ xs ++ [-x]) l = stepL n f g (-x) (actL n f g xs (stepL n f g x l)) := fun l => by rw [actL_app, actL_app]; rfl
  have hpn : (plc (-x)).toNat + 1 < s := by rw [plc_neg hx]; exact hp
  refine bij_len cols_nd cols_nd (stepL n f g x) ?_ ?_
  · intro a ha b hb e
    rw [cols_mem hn] at ha hb
    rw [← step_back hn hf hg hc hx (by rw [ha.1]; exact hp) ha.2.1, e, step_back hn hf hg hc hx (by rw [hb.1]; exact hp) hb.2.1]
  · intro b
    rw [cols_mem hn]
    constructor
    · rintro ⟨h1, h2, h3⟩
      have e := step_forth hn hf hg hc hx (l := b) (by rw [h1]; exact hp) h2
      refine ⟨stepL n f g (-x) b, (cols_mem hn).2 ⟨by rw [stepL_len]; exact h1, h2.step hn hf hg hc (-x) (by rw [h1]; exact hpn), ?_⟩, e⟩
      rw [hw, e, h3]
    · rintro ⟨a, ha, rfl⟩
      rw [cols_mem hn] at ha
      obtain ⟨h1, h2, h3⟩ := ha
      have hs := h2.step hn hf hg hc x (by rw [h1]; exact hp)
      have hl : (stepL n f g x a).length = s := by rw [stepL_len]; exact h1
      have hA := hs.act hn hf hg hc xs (fun y hy => by rw [hl]; exact hxs y hy)
      have hAl : (actL n f g xs (stepL n f g x a)).length = s := by rw [actL_len]; exact hl
      refine ⟨hl, hs, ?_⟩
      rw [hw] at h3
      have := step_forth hn hf hg hc hx (l := actL n f g xs (stepL n f g x a)) (by rw [hAl]; exact hp) hA
      rw [h3] at this
      exact this.symm

/-! ### one more strand -/
theorem doF_snoc (f g : List (List Int)) {i : Nat} {l : List Int} {z : Int} (hi : i + 1 < l.length) : doF f g i (l ++ [z]) = doF f g i l ++ [z] := by
  unfold doF
  have e1 : (l ++ [z]).getD i 0 = l.getD i 0 := by simp [List.getD_eq_getElem?_getD, List.getElem?_append_left (show i < l.length by omega)]
  have e2 : (l ++ [z]).getD (i + 1) 0 = l.getD (i + 1) 0 := by simp [List.getD_eq_getElem?_getD, List.getElem?_append_left hi]
  rw [e1, e2, List.set_append_left _ _ (by omega), List.set_append_left _ _ (by rw [List.length_set]; omega)]
theorem step_snoc (n : Nat) (f g : List (List Int)) {x : Int} {l : List Int} {z : Int} (hi : (plc x).toNat + 1 < l.length) : stepL n f g x (l ++ [z]) = stepL n f g x l ++ [z] := by
  unfold stepL; split <;> exact doF_snoc _ _ hi
theorem act_snoc (n : Nat) (f g : List (List Int)) (z : Int) : ∀ (xs l : List Int), (∀ x ∈ xs, (plc x).toNat + 1 < l.length) → actL n f g xs (l ++ [z]) = actL n f g xs l ++ [z] := by
  intro xs
  induction xs with
  | nil => intro l _; rfl
  | cons x xs ih =>
    intro l hx
    have e1 : ∀ m, actL n f g (x :: xs) m = actL n f g xs (stepL n f g x m) := fun m => rfl
    rw [e1, e1, step_snoc n f g (hx x (by simp)), ih _ (fun y hy => by rw [stepL_len]; exact hx y (by simp [hy]))]
/-- the last crossing -/
theorem doF_last (f g : List (List Int)) {s : Nat} {l : List Int} {y z : Int} (hl : l.length = s) : doF f g s (l ++ [y] ++ [z]) = l ++ [((tv f y.toNat z.toNat : Nat) : Int)] ++ [((tv g y.toNat z.toNat : Nat) : Int)] := by
  subst hl
  unfold doF
  simp [List.getD_eq_getElem?_getD]
theorem snoc_of {s : Nat} {l : List Int} (h : l.length = s + 1) : ∃ m y, l = m ++ [y] ∧ m.length = s := by
  refine ⟨l.take s, l.getD s 0, ?_, by rw [List.length_take]; omega⟩
  have : l = l.take (s + 1) := by rw [List.take_of_length_le (by omega)]
  conv => lhs; rw [this]
  rw [List.take_succ_eq_append_getElem (by omega), List.getD_eq_getElem?_getD, List.getElem?_eq_getElem (by omega), Option.getD_some]
theorem less_snoc2 {m : List Int} {y : Int} (h : Less n (m ++ [y])) : Less n m ∧ ∃ k : Nat, k < n ∧ y = (k : Int) := by
  constructor
  · intro i hi
    obtain ⟨k, hk, e⟩ := h i (by rw [List.length_append]; omega)
    rw [List.getD_eq_getElem?_getD, List.getElem?_append_left hi, ← List.getD_eq_getElem?_getD] at e
    exact ⟨k, hk, e⟩
  · obtain ⟨k, hk, e⟩ := h m.length (by simp)
    refine ⟨k, hk, ?_⟩
    simpa [List.getD_eq_getElem?_getD] using e
theorem snoc_less {m : List Int} {k : Nat} (h : Less n m) (hk : k < n) : Less n (m ++ [(k : Int)]) := fun i hi => by
  rw [List.length_append, List.length_singleton] at hi
  by_cases e : i < m.length
  · obtain ⟨q, hq, e2⟩ := h i e
    exact ⟨q, hq, by rw [List.getD_eq_getElem?_getD, List.getElem?_append_left e, ← List.getD_eq_getElem?_getD]; exact e2⟩
  · obtain rfl : i = m.length := by omega
    exact ⟨k, hk, by simp [List.getD_eq_getElem?_getD]⟩
theorem plc_p (s : Nat) : (plc ((s : Int) + 1)).toNat = s := by unfold plc; rw [if_neg (by omega)]; omega
theorem step_last (n : Nat) (f g : List (List Int)) {s : Nat} {l : List Int} {y z : Int} (hl : l.length = s) : stepL n f g ((s : Int) + 1) (l ++ [y] ++ [z]) = l ++ [((tv f y.toNat z.toNat : Nat) : Int)] ++ [((tv g y.toNat z.toNat : Nat) : Int)] := by
  unfold stepL
  rw [if_pos (by omega), plc_p]
  exact doF_last f g hl
theorem stab_fix (hn : 1 ≤ n) (hf : Sq n f) (hg : Sq n g) (hc : collOk n f g = true) (hq : ∀ x y, x < n → y < n → tv g x y = x) (hd : ∀ x, x < n → tv f x x = x) {s : Nat} {xs : List Int} {x : Int} (hx : x = (s : Int) + 1 ∨ x = -((s : Int) + 1)) (hxs : ∀ y ∈ xs, (plc y).toNat + 1 < s + 1) (L : List Int) : FixT n (s + 2) f g (xs ++ [x]) L ↔ ∃ l, FixT n (s + 1) f g xs l ∧ l ++ [l.getD s 0] = L := by
  have hw : ∀ (l : List Int) (z : Int), l.length = s + 1 → actL n f g (xs ++ [x]) (l ++ [z]) = stepL n f g x (actL n f g xs l ++ [z]) := fun l z hl => by
    rw [actL_app, act_snoc n f g z xs l (fun y hy => by rw [hl]; exact hxs y hy)]; rfl
  have hP : ∀ (l : List Int) (y z : Nat), l.length = s → y < n → z < n → stepL n f g ((s : Int) + 1) (l ++ [(y : Int)] ++ [(z : Int)]) = l ++ [((tv f y z : Nat) : Int)] ++ [(y : Int)] := fun l y z hl hy hz => by
    rw [step_last n f g hl, Int.toNat_natCast, Int.toNat_natCast, hq y z hy hz]
  have hpl : (plc ((s : Int) + 1)).toNat + 1 = s + 1 := by rw [plc_p]
  have hcut : ∀ {u v : List Int} {a b c d : Int}, u.length = v.length → u ++ [a] ++ [b] = v ++ [c] ++ [d] → u = v ∧ a = c ∧ b = d := fun hl e => by
    have e1 := List.append_inj' e rfl
    have e2 := List.append_inj' e1.1 rfl
    exact ⟨e2.1, by simpa using e2.2, by simpa using e1.2⟩
  constructor
  · rintro ⟨h1, h2, h3⟩
    obtain ⟨l, z, rfl, hl⟩ := snoc_of h1
    obtain ⟨h4, kz, hkz, rfl⟩ := less_snoc2 h2
    obtain ⟨m, y, rfl, hm⟩ := snoc_of hl
    obtain ⟨h5, ky, hky, rfl⟩ := less_snoc2 h4
    have hA := h4.act hn hf hg hc xs (fun y hy => by rw [hl]; exact hxs y hy)
    have hAl : (actL n f g xs (m ++ [(ky : Int)])).length = s + 1 := by rw [actL_len]; exact hl
    rw [hw _ _ hl] at h3
    obtain ⟨m', y', eA, hm'⟩ := snoc_of hAl
    rw [eA] at h3 hA
    obtain ⟨h6, ky', hky', rfl⟩ := less_snoc2 hA
    have hres : m' = m ∧ ky' = ky ∧ ky = kz := by
      rcases hx with rfl | rfl
      · rw [hP _ _ _ hm' hky' hkz] at h3
        obtain ⟨a1, a2, a3⟩ := hcut (by omega) h3
        have a4 : ky' = kz := by omega
        subst a4
        rw [hd ky' hky'] at a2
        exact ⟨a1, by omega, by omega⟩
      · have e := step_forth hn hf hg hc (x := (s : Int) + 1) (l := m' ++ [(ky' : Int)] ++ [(kz : Int)]) (by omega) (by rw [hpl]; simp; omega) (snoc_less hA hkz)
        rw [h3, hP _ _ _ hm hky hkz] at e
        obtain ⟨a1, a2, a3⟩ := hcut (by omega) e
        have a4 : ky = kz := by omega
        subst a4
        rw [hd ky hky] at a2
        exact ⟨a1.symm, by omega, rfl⟩
    obtain ⟨rfl, rfl, rfl⟩ := hres
    refine ⟨m' ++ [(ky' : Int)], ⟨hl, h4, eA⟩, ?_⟩
    congr 2
    subst hm'
    simp [List.getD_eq_getElem?_getD]
  · rintro ⟨l, ⟨h1, h2, h3⟩, rfl⟩
    obtain ⟨m, y, rfl, hm⟩ := snoc_of h1
    obtain ⟨h5, ky, hky, rfl⟩ := less_snoc2 h2
    have e0 : (m ++ [(ky : Int)]).getD s 0 = (ky : Int) := by subst hm; simp [List.getD_eq_getElem?_getD]
    rw [e0]
    refine ⟨by simp; omega, snoc_less h2 hky, ?_⟩
    rw [hw _ _ h1, h3]
    have e := hP m ky ky hm hky hky
    rw [hd ky hky] at e
    rcases hx with rfl | rfl
    · exact e
    · have e2 := step_back hn hf hg hc (x := (s : Int) + 1) (l := m ++ [(ky : Int)] ++ [(ky : Int)]) (by omega) (by rw [hpl]; simp; omega) (snoc_less h2 hky)
      rw [e] at e2
      exact e2
theorem stab_cnt (hn : 1 ≤ n) (hf : Sq n f) (hg : Sq n g) (hc : collOk n f g = true) (hq : ∀ x y, x < n → y < n → tv g x y = x) (hd : ∀ x, x < n → tv f x x = x) {s : Nat} {xs : List Int} {x : Int} (hx : x = (s : Int) + 1 ∨ x = -((s : Int) + 1)) (hxs : ∀ y ∈ xs, (plc y).toNat + 1 < s + 1) : (colsL n (s + 2) f g (xs ++ [x])).length = (colsL n (s + 1) f g xs).length := by
  symm
  refine bij_len cols_nd cols_nd (fun l => l ++ [l.getD s 0]) ?_ ?_
  · intro a ha b hb e
    exact (List.append_inj' e rfl).1
  · intro b
    rw [cols_mem hn, stab_fix hn hf hg hc hq hd hx hxs]
    constructor
    · rintro ⟨l, h1, h2⟩; exact ⟨l, (cols_mem hn).2 h1, h2⟩
    · rintro ⟨l, h1, h2⟩; exact ⟨l, (cols_mem hn).1 h1, h2⟩
end
end Go.Proofs.YtmncpnpjhchliaaGreat
