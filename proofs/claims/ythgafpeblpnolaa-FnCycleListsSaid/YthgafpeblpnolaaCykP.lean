/-
  The tables of cycle sets, row by row and by turns: one list.
  No condition.
-/
import Derived.Test.YthgafpeblpnolaaBase2
import Derived.Test.YthgafpeblpnolaaCykS
namespace Go.Proofs.Ythgafpeblpnolaa
set_option maxRecDepth 100000
set_option linter.unusedVariables false
set_option linter.unusedSimpArgs false

theorem rng_iff {k : Nat} {p : Nat → Bool} : (List.range k).all p = true ↔ ∀ y, y < k → p y = true :=
  ⟨fun h y hy => List.all_eq_true.1 h y (List.mem_range.2 hy), rng_of⟩
theorem cyV_pre {o r : List (List Int)} {x : Nat} (h : x < o.length) (z : Nat) : cyV (o ++ r) x z = cyV o x z := by
  unfold cyV
  rw [show (o ++ r).getD x [] = o.getD x [] by simp [List.getD_eq_getElem?_getD, List.getElem?_append_left h]]
theorem cycR_pre (n : Nat) (o r : List (List Int)) (h : cycR n (o ++ r) = true) : cycR n o = true := by
  unfold cycR at *
  rw [rng_iff] at *
  intro x hx
  have hx' : x < (o ++ r).length := by rw [List.length_append]; omega
  have h1 := h x hx'
  unfold cyX at *
  rw [Bool.and_eq_true] at *
  refine ⟨?_, ?_⟩
  · have h2 := h1.1
    unfold cyS at *
    rw [rng_iff] at *
    intro x' h'
    have := h2 x' h'
    rwa [cyV_pre (by omega), cyV_pre hx] at this
  · have h2 := h1.2
    rw [rng_iff] at *
    intro y hy
    have h3 := h2 y (by rw [List.length_append]; omega)
    unfold cyZ at *
    rw [cyV_pre hx, cyV_pre hy] at h3
    by_cases hu : o.length ≤ (cyV o x y).toNat
    · rw [decide_eq_true hu]; rfl
    · by_cases hv : o.length ≤ (cyV o y x).toNat
      · rw [decide_eq_true hv]; simp
      · rw [decide_eq_false hu, decide_eq_false hv]
        have hu' : ¬ (o ++ r).length ≤ (cyV o x y).toNat := by rw [List.length_append]; omega
        have hv' : ¬ (o ++ r).length ≤ (cyV o y x).toNat := by rw [List.length_append]; omega
        rw [decide_eq_false hu', decide_eq_false hv', Bool.false_or, Bool.false_or] at h3
        rw [Bool.false_or, Bool.false_or]
        unfold cyE at *
        rw [rng_iff] at *
        intro z hz
        have h4 := h3 z hz
        rw [cyV_pre (x := (cyV o x y).toNat) (by omega), cyV_pre (x := (cyV o y x).toNat) (by omega), cyV_pre (x := x) hx, cyV_pre (x := y) hy] at h4
        exact h4

/-- the rows that are known, and rows that are not -/
def padR (n : Nat) (o : List (List Int)) : List (List Int) := o ++ List.replicate (n - o.length) []
theorem padR_len {n : Nat} {o : List (List Int)} (h : o.length ≤ n) : (padR n o).length = n := by simp [padR]; omega
theorem padR_full {n : Nat} {o : List (List Int)} (h : o.length = n) : padR n o = o := by unfold padR; rw [h, Nat.sub_self]; simp
theorem padR_low {n x : Nat} {o : List (List Int)} (h : x < o.length) : (padR n o).getD x [] = o.getD x [] := by
  simp [padR, List.getD_eq_getElem?_getD, List.getElem?_append_left h]
theorem padR_high {n x : Nat} {o : List (List Int)} (h : o.length ≤ x) : (padR n o).getD x [] = [] := by
  unfold padR
  rw [List.getD_eq_getElem?_getD, List.getElem?_append_right h, List.getElem?_replicate]
  split <;> rfl
theorem padR_set {n : Nat} {o : List (List Int)} (h : o.length < n) (p : List Int) : (padR n o).set o.length p = padR n (o ++ [p]) := by
  unfold padR
  rw [List.set_append_right _ _ (Nat.le_refl _), Nat.sub_self, List.append_assoc]
  congr 1
  obtain ⟨m, hm⟩ : ∃ m, n - o.length = m + 1 := ⟨n - o.length - 1, by omega⟩
  rw [hm, List.replicate_succ]
  have : n - (o ++ [p]).length = m := by simp; omega
  rw [this]; rfl
theorem padR_frs {n : Nat} {o : List (List Int)} (h : o.length ≤ n) (hne : ∀ p ∈ o, p ≠ []) : frs (padR n o) = o.length := by
  refine frs_eq _ _ (fun i hi => ?_) (by rw [padR_len h]; exact h) ?_
  · rw [padR_low hi, List.getD_eq_getElem?_getD, List.getElem?_eq_getElem hi]
    exact hne _ (List.getElem_mem hi)
  · exact .inr (padR_high (Nat.le_refl _))
theorem cyV_pad {n x : Nat} {o : List (List Int)} (h : x < o.length) (z : Nat) : cyV (padR n o) x z = cyV o x z := cyV_pre h z
/-- rows of a cycle set fit together -/
theorem hfL_of {n : Nat} {o r : List (List Int)} (hl : (o ++ r).length = n) (h : isCyc n (o ++ r) = true) : hfL n (padR n o) = true := by
  unfold isCyc at h
  rw [Bool.and_eq_true] at h
  have hc := h.2
  unfold cyfOk at hc
  rw [rng_iff] at hc
  unfold hfL
  rw [rng_iff]
  intro x hx
  unfold hfX
  rw [rng_iff]
  intro y hy
  unfold hfP
  by_cases hxo : o.length ≤ x
  · rw [decide_eq_true (padR_high hxo), Bool.true_or]
  · have hxo' : x < o.length := by omega
    have hyo' : y < o.length := by omega
    rw [cyV_pad hxo', cyV_pad hyo']
    by_cases hu : o.length ≤ (cyV o x y).toNat
    · rw [decide_eq_true (padR_high (n := n) hu)]; simp
    · by_cases hv : o.length ≤ (cyV o y x).toNat
      · rw [decide_eq_true (padR_high (n := n) hv)]; simp
      · have : cyE n (padR n o) x y (cyV o x y).toNat (cyV o y x).toNat = true := by
          unfold cyE
          rw [rng_iff]
          intro z hz
          rw [cyV_pad (x := (cyV o x y).toNat) (by omega), cyV_pad (x := (cyV o y x).toNat) (by omega), cyV_pad (x := x) hxo', cyV_pad (x := y) hyo']
          have h1 := hc x hx
          unfold cyfX at h1
          rw [rng_iff] at h1
          have h2 := h1 y (by omega)
          unfold cyfY at h2
          rw [rng_iff] at h2
          have h3 := h2 z hz
          unfold cyfP at h3
          rw [cyV_pre (x := x) hxo', cyV_pre (x := y) hyo', cyV_pre (x := x) hxo', cyV_pre (x := y) hyo', cyV_pre (x := (cyV o x y).toNat) (by omega), cyV_pre (x := (cyV o y x).toNat) (by omega)] at h3
          exact h3
        rw [this]; simp
theorem trnG_filter {n : Nat} {ps : List (List Int)} (hps : ∀ p ∈ ps, p ≠ []) : ∀ (m : Nat) (o : List (List Int)), o.length + m = n → (∀ p ∈ o, p ≠ []) → trnG n ps m (padR n o) = (allT ps m o).filter (isCyc n) := by
  intro m
  induction m with
  | zero =>
    intro o hl hne
    rw [padR_full (by omega)]
    unfold trnG allT
    cases h : isCyc n o <;> simp [h]
  | succ m ih =>
    intro o hl hne
    have e1 : frs (padR n o) = o.length := padR_frs (by omega) hne
    unfold trnG
    rw [e1, padR_len (by omega), if_neg (by omega)]
    have e2 : allT ps (m + 1) o = ps.flatMap fun p => allT ps m (o ++ [p]) := rfl
    rw [e2, filter_flatMap']
    refine flatMap_congr' fun p hp => ?_
    rw [padR_set (by omega)]
    cases h : hfL n (padR n (o ++ [p])) with
    | true =>
      rw [if_pos rfl]
      exact ih (o ++ [p]) (by simp; omega) (fun q hq => by
        rcases List.mem_append.1 hq with e | e
        · exact hne q e
        · simp at e; rw [e]; exact hps p hp)
    | false =>
      rw [if_neg (by simp)]
      symm
      refine filter_none fun t ht => ?_
      obtain ⟨r, h1, h2, _⟩ := allT_mem _ _ _ ht
      cases e : isCyc n t with
      | false => rfl
      | true => rw [h1] at e; rw [hfL_of (by simp; omega) e] at h; cases h
theorem cyS_perm {n : Nat} {t : List (List Int)} (hp : RwsP n t) : permOk (sqrL n t) = (List.range n).all fun x => cyS t x := by
  have hg : ∀ x, x < n → (sqrL n t).getD x 0 = cyV t x x := fun x hx => by simp [sqrL, List.getD_eq_getElem?_getD, List.getElem?_map, hx]
  have hr : ∀ x, x < n → 0 ≤ cyV t x x ∧ cyV t x x < n := fun x hx => by
    obtain ⟨z, hz, hzn⟩ := (hp.2 x hx).at hx
    have : cyV t x x = (z : Int) := hz
    omega
  rw [Bool.eq_iff_iff, rng_iff]
  constructor
  · intro h x hx
    have h1 := permOk_to h
    rw [sqrL_len] at h1
    unfold cyS
    rw [rng_iff]
    intro x' h'
    have : ¬ cyV t x' x' = cyV t x x := fun e => by
      have := h1.2 x' x (by omega) hx (by rw [hg _ (by omega), hg _ hx]; exact e)
      omega
    simp [this]
  · intro h
    refine permTo_ok ?_
    rw [sqrL_len]
    refine ⟨fun i hi => by rw [hg i hi, sqrL_len]; exact hr i hi, fun i j hi hj e => ?_⟩
    rw [hg i hi, hg j hj] at e
    rcases Nat.lt_trichotomy i j with hl | hl | hl
    · have h1 := h j hj
      unfold cyS at h1
      rw [rng_iff] at h1
      have h2 := h1 i hl
      simp [e] at h2
    · exact hl
    · have h1 := h i hi
      unfold cyS at h1
      rw [rng_iff] at h1
      have h2 := h1 j hl
      simp [e] at h2
theorem cycR_full {n : Nat} {t : List (List Int)} (hp : RwsP n t) : cycR n t = isCyc n t := by
  unfold isCyc
  rw [cyS_perm hp]
  have hu : ∀ x y, x < n → y < n → ¬ n ≤ (cyV t x y).toNat := fun x y hx hy => by
    obtain ⟨z, hz, hzn⟩ := (hp.2 x hx).at hy
    have : cyV t x y = (z : Int) := hz
    rw [this, Int.toNat_natCast]; omega
  have hz : ∀ x y, x < n → y < n → cyZ n t x y = cyfY n t x y := fun x y hx hy => by
    unfold cyZ
    rw [hp.1, decide_eq_false (hu x y hx hy), decide_eq_false (hu y x hy hx)]
    rfl
  unfold cycR cyfOk
  rw [hp.1, Bool.eq_iff_iff, Bool.and_eq_true, rng_iff, rng_iff, rng_iff]
  constructor
  · intro h
    refine ⟨fun x hx => ?_, fun x hx => ?_⟩
    · have := h x hx
      unfold cyX at this
      rw [Bool.and_eq_true] at this
      exact this.1
    · have := h x hx
      unfold cyX at this
      rw [Bool.and_eq_true, hp.1, rng_iff] at this
      unfold cyfX
      rw [rng_iff]
      intro y hy
      rw [← hz x y hx hy]; exact this.2 y hy
  · rintro ⟨h1, h2⟩ x hx
    unfold cyX
    rw [Bool.and_eq_true, hp.1, rng_iff]
    refine ⟨h1 x hx, fun y hy => ?_⟩
    have := h2 x hx
    unfold cyfX at this
    rw [rng_iff] at this
    rw [hz x y hx hy]; exact this y hy
theorem allT_rwsP {n : Nat} (h1 : 1 ≤ n) (h4 : n ≤ 4) {t : List (List Int)} (ht : t ∈ allT (prmL n) n []) : RwsP n t := by
  obtain ⟨r, e, hl, hm⟩ := allT_mem _ _ _ ht
  rw [List.nil_append] at e
  subst e
  refine ⟨hl, fun i hi => ?_⟩
  have := hm t[i] (List.getElem_mem (by omega))
  obtain ⟨j, hj, ej⟩ := List.getElem_of_mem this
  have h := prm_isP h1 h4 j hj
  rw [List.getD_eq_getElem?_getD, List.getElem?_eq_getElem hj, Option.getD_some, ej] at h
  rw [List.getD_eq_getElem?_getD, List.getElem?_eq_getElem (by omega), Option.getD_some]
  exact h
theorem prm_ne {n : Nat} (h1 : 1 ≤ n) (h4 : n ≤ 4) : ∀ p ∈ prmL n, p ≠ [] := fun p hp => by
  obtain ⟨j, hj, ej⟩ := List.getElem_of_mem hp
  have h := prm_isP h1 h4 j hj
  rw [List.getD_eq_getElem?_getD, List.getElem?_eq_getElem hj, Option.getD_some, ej] at h
  exact IsP.ne h1 h
theorem trnN_filter {n : Nat} (h1 : 1 ≤ n) (h4 : n ≤ 4) : trnN n = (allT (prmL n) n []).filter (isCyc n) := by
  have := trnG_filter (n := n) (prm_ne h1 h4) n [] (by simp) (by simp)
  rw [← this]
  unfold trnN padR
  simp
theorem cyk_eq : ∀ n : Fin 5, 1 ≤ n.1 → rowL n.1 (cycR n.1) = trnN n.1 := fun n h1 => by
  rw [trnN_filter h1 (by omega), rowL_filter h1 (cycR_pre n.1)]
  exact filter_congr' fun t ht => cycR_full (allT_rwsP h1 (by omega) ht)
end Go.Proofs.Ythgafpeblpnolaa
