/-
  Lists of tables: how many they are, counted row by row; how many least ones, told by a list of them.
  No condition.
-/
import Derived.Test.YthgafpeblpnolaaRnA
namespace Go.Proofs.Ythgafpeblpnolaa
set_option maxRecDepth 100000
set_option linter.unusedVariables false
set_option linter.unusedSimpArgs false

def cntG (ps : List (List Int)) (fits : List (List Int) → Bool) : Nat → List (List Int) → Nat
  | 0, _ => 1
  | m + 1, o => (ps.map fun p => if fits (o ++ [p]) then cntG ps fits m (o ++ [p]) else 0).sum
theorem rowG_cnt (ps : List (List Int)) (fits : List (List Int) → Bool) : ∀ (m : Nat) (o : List (List Int)), (rowG ps fits m o).length = cntG ps fits m o := by
  intro m
  induction m with
  | zero => intro o; rfl
  | succ m ih =>
    intro o
    show (ps.flatMap fun p => if fits (o ++ [p]) then rowG ps fits m (o ++ [p]) else []).length = (ps.map fun p => if fits (o ++ [p]) then cntG ps fits m (o ++ [p]) else 0).sum
    rw [List.length_flatMap]
    congr 1
    refine List.map_congr_left fun p _ => ?_
    by_cases h : fits (o ++ [p]) = true
    · rw [if_pos h, if_pos h]; exact ih _
    · rw [if_neg h, if_neg h]; rfl
/-- a quarter of the count -/
def cntQ (fits : List (List Int) → Bool) (i : Nat) : Nat := ((((prmL 4).drop (6 * i)).take 6).map fun p => if fits ([] ++ [p]) then cntG (prmL 4) fits 3 ([] ++ [p]) else 0).sum
theorem four_parts {α : Type} (f : α → Nat) {l : List α} (h : l.length = 24) : (l.map f).sum = (((l.drop 0).take 6).map f).sum + (((l.drop 6).take 6).map f).sum + (((l.drop 12).take 6).map f).sum + (((l.drop 18).take 6).map f).sum := by
  have e3 : (l.drop 18).take 6 = l.drop 18 := List.take_of_length_le (by simp; omega)
  have e2 : l.drop 12 = (l.drop 12).take 6 ++ l.drop 18 := by
    have := (List.take_append_drop 6 (l.drop 12)).symm; rwa [List.drop_drop] at this
  have e1 : l.drop 6 = (l.drop 6).take 6 ++ l.drop 12 := by
    have := (List.take_append_drop 6 (l.drop 6)).symm; rwa [List.drop_drop] at this
  have e0 : l = (l.drop 0).take 6 ++ l.drop 6 := by
    have := (List.take_append_drop 6 l).symm; simp
  have hs : ∀ a b : List α, ((a ++ b).map f).sum = (a.map f).sum + (b.map f).sum := fun a b => by rw [List.map_append, List.sum_append]
  conv => lhs; rw [e0]
  rw [hs]
  conv => lhs; rw [e1, hs, e2, hs]
  rw [e3]; omega
theorem prm4_len : (prmL 4).length = 24 := by decide +kernel
theorem cnt_parts (fits : List (List Int) → Bool) : (rowL 4 fits).length = cntQ fits 0 + cntQ fits 1 + cntQ fits 2 + cntQ fits 3 := by
  unfold rowL
  rw [rowG_cnt]
  exact four_parts _ prm4_len

/-! ### the least ones, told by a list -/
theorem sub_split {β : Type} : ∀ {r l : List β}, r.Nodup → (∀ x, x ∈ r → x ∈ l) → ∃ s, l.Perm (r ++ s) := by
  intro r
  induction r with
  | nil => intro l _ _; exact ⟨l, by simp⟩
  | cons a r ih =>
    intro l hn hs
    rw [List.nodup_cons] at hn
    obtain ⟨u, v, rfl⟩ := List.append_of_mem (hs a (by simp))
    obtain ⟨s, h⟩ := ih (l := u ++ v) hn.2 (fun x hx => by
      have := hs x (by simp [hx])
      rw [List.mem_append, List.mem_cons] at this
      rw [List.mem_append]
      rcases this with h | h | h
      · exact .inl h
      · exact absurd (h ▸ hx) hn.1
      · exact .inr h)
    refine ⟨s, List.perm_middle.trans ?_⟩
    exact List.Perm.cons a h
theorem sum_ge {β : Type} (f : β → Nat) : ∀ {l : List β}, (∀ x, x ∈ l → 1 ≤ f x) → l.length ≤ (l.map f).sum := by
  intro l
  induction l with
  | nil => intro _; simp
  | cons a l ih =>
    intro h
    have h1 := ih fun x hx => h x (by simp [hx])
    have h2 := h a (by simp)
    rw [List.map_cons, List.sum_cons, List.length_cons]; omega
theorem cert_len {β : Type} (f : β → Nat) {r l : List β} (hr : r.Nodup) (hs : ∀ x, x ∈ r → x ∈ l) (h1 : ∀ x, x ∈ l → 1 ≤ f x) (e : (r.map f).sum = (l.map f).sum) : l.length = r.length := by
  obtain ⟨s, hp⟩ := sub_split hr hs
  have h2 := (hp.map f).sum_nat
  rw [List.map_append, List.sum_append] at h2
  have h3 := sum_ge f (l := s) fun x hx => h1 x (hp.mem_iff.2 (List.mem_append_right _ hx))
  have h4 := hp.length_eq
  rw [List.length_append] at h4
  omega
/-- as many tables as there should be, and of the least ones -/
def gfN (n : Nat) (t : List (List Int)) : Nat := (prmL n).length / kpN (fun p t => rnL n t p) (prmL n) t
theorem gfN_pos {n : Nat} (h1 : 1 ≤ n) (h4 : n ≤ 4) {t : List (List Int)} (h : Sq n t) : 1 ≤ gfN n t := by
  have hk := kp_pos (rnL_wrk h1 h4) h
  have : kpN (fun p t => rnL n t p) (prmL n) t ≤ (prmL n).length := List.length_filter_le _ _
  exact (Nat.one_le_div_iff hk).2 this
/-- a list of least tables of a list -/
def certB (n : Nat) (fits : List (List Int) → Bool) (r : List (List (List Int))) : Bool :=
  r.all fun t => decide (t.length = n) && (t.all fun p => (prmL n).contains p) && fits t && (prmL n).all fun p => !decide (cmpT (rnL n t p) t < 0)
theorem cert_in {n : Nat} (h1 : 1 ≤ n) {fits : List (List Int) → Bool} (hm : ∀ o r, fits (o ++ r) = true → fits o = true) {r : List (List (List Int))} (h : certB n fits r = true) : ∀ t, t ∈ r → t ∈ (rowL n fits).filter (lstB n) := by
  intro t ht
  have q := List.all_eq_true.1 h t ht
  rw [Bool.and_eq_true, Bool.and_eq_true, Bool.and_eq_true] at q
  obtain ⟨⟨⟨q1, q2⟩, q3⟩, q4⟩ := q
  refine List.mem_filter.2 ⟨?_, ?_⟩
  · rw [rowL_filter h1 hm]
    refine List.mem_filter.2 ⟨?_, q3⟩
    have := allT_of (ps := prmL n) n [] t (of_decide_eq_true q1) (fun p hp => by simpa using List.all_eq_true.1 q2 p hp)
    simpa using this
  · unfold lstB
    refine decide_eq_true (Eq.symm (lst_keep _ fun p hp hc => ?_))
    have := List.all_eq_true.1 q4 p hp
    simp [hc] at this
theorem rowL_nd {n : Nat} (h4 : n ≤ 4) (fits : List (List Int) → Bool) : (rowL n fits).Nodup := by
  have h := rowG_sorted (ps := prmL n) (fits := fits) (prm_sorted ⟨n, by omega⟩) n []
  refine List.Pairwise.imp ?_ h
  intro a b hab e
  rw [e, cmpT_cmp.refl] at hab; omega
/-- all tables are as many as, over the least ones, the permutations divided by those that keep them -/
theorem row_orbits {n : Nat} (h1 : 1 ≤ n) (h4 : n ≤ 4) {fits : List (List Int) → Bool} (hcl : ∀ t, t ∈ rowL n fits → ∀ p, IsP n p → rnL n t p ∈ rowL n fits) : (((rowL n fits).filter (lstB n)).map (gfN n)).sum = (rowL n fits).length := by
  have h := orbits cmpT_cmp (rnL_wrk h1 h4) (rowL_nd h4 fits) (fun t ht => by
    obtain ⟨i, hi, e⟩ := List.getElem_of_mem ht
    have := (rowL_rwsP h1 h4 (fits := fits) hi).sq
    rwa [List.getD_eq_getElem?_getD, List.getElem?_eq_getElem hi, Option.getD_some, e] at this) (fun t ht p hp => hcl t ht p (prm_get h1 h4 hp))
  rw [← h]
  have : lstB n = fun t => decide (t = lfm cmpT (fun p t => rnL n t p) (prmL n) t) := by
    funext t; unfold lstB; rw [least_lfm]
  rw [this]; rfl
theorem rowL_sqm {n : Nat} (h1 : 1 ≤ n) (h4 : n ≤ 4) {fits : List (List Int) → Bool} {t : List (List Int)} (ht : t ∈ rowL n fits) : RwsP n t := by
  obtain ⟨i, hi, e⟩ := List.getElem_of_mem ht
  have := rowL_rwsP h1 h4 (fits := fits) hi
  rwa [List.getD_eq_getElem?_getD, List.getElem?_eq_getElem hi, Option.getD_some, e] at this
/-- as many least ones as a list tells -/
theorem cert_all {n : Nat} (h1 : 1 ≤ n) (h4 : n ≤ 4) {fits : List (List Int) → Bool} (hm : ∀ o r, fits (o ++ r) = true → fits o = true) (hcl : ∀ t, t ∈ rowL n fits → ∀ p, IsP n p → rnL n t p ∈ rowL n fits) {r : List (List (List Int))} (hn : r.Nodup) (h : certB n fits r = true) (e : (r.map (gfN n)).sum = (rowL n fits).length) :
    ((rowL n fits).filter (lstB n)).length = r.length :=
  cert_len (gfN n) hn (cert_in h1 hm h) (fun t ht => gfN_pos h1 h4 (rowL_sqm h1 h4 (List.mem_filter.1 ht).1).sq) (by rw [e, row_orbits h1 h4 hcl])
end Go.Proofs.Ythgafpeblpnolaa
