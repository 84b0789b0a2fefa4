/-
  Renaming tables and pair maps, in plain lists: a group at work.
  No condition.
-/
import Derived.Test.YthgafpeblpnolaaActG
import Derived.Test.YthgafpeblpnolaaBase3
namespace Go.Proofs.Ythgafpeblpnolaa
set_option maxRecDepth 100000
set_option linter.unusedVariables false
set_option linter.unusedSimpArgs false

theorem tabF_tv {n : Nat} {v : Nat → Nat → Int} {x y : Nat} (hx : x < n) (hy : y < n) : tv (tabF n v) x y = (v x y).toNat := by
  unfold tv
  rw [tabF_get _ _ _ hx]
  simp [List.getD_eq_getElem?_getD, hy]
theorem tabF_sqI {n : Nat} {v : Nat → Nat → Int} (h : ∀ x y, x < n → y < n → 0 ≤ v x y ∧ v x y < n) : Sq n (tabF n v) := by
  refine ⟨tabF_len _ _, fun x hx => ?_⟩
  have e := tabF_get n v x hx
  refine ⟨by rw [e]; simp, fun y hy => ?_⟩
  have := h x y hx hy
  rw [tabF_tv hx hy]
  refine ⟨by omega, ?_⟩
  rw [e]
  simp [List.getD_eq_getElem?_getD, hy]
  omega
theorem sq_ext {n : Nat} {t s : List (List Int)} (h : Sq n t) (k : Sq n s) (e : ∀ x y, x < n → y < n → tv t x y = tv s x y) : t = s := by
  rw [← sq_tabF h, ← sq_tabF k]
  refine tabQ_congr fun x y hx hy => ?_
  rw [h.val hx hy, k.val hx hy, e x y hx hy]
theorem isP_of {n : Nat} {p : List Int} (h : IsP n p) : ∃ f g, IsPf n p f g := h
theorem backF_pf {n : Nat} {p : List Int} {f g : Nat → Nat} (h : IsPf n p f g) : IsPf n (backF p) g f := by
  have hb := backK_get n p f g h n (Nat.le_refl _)
  obtain ⟨hl, h1, h2⟩ := h
  refine ⟨by rw [backF_len]; exact hl, fun i hi => ⟨(h1 i hi).2.1, (h1 i hi).1, (h1 i hi).2.2.2, (h1 i hi).2.2.1⟩, fun i hi => ?_⟩
  unfold backF; rw [hl, hb i hi, if_pos (h1 i hi).2.1]
theorem thL_pf {n : Nat} {p q : List Int} {f g f' g' : Nat → Nat} (h : IsPf n p f g) (k : IsPf n q f' g') : IsPf n (thL p q) (fun i => f' (f i)) (fun i => g (g' i)) := by
  obtain ⟨hl, h1, h2⟩ := h
  obtain ⟨hl', h1', h2'⟩ := k
  refine ⟨by rw [thL_len]; exact hl, fun i hi => ?_, fun i hi => ?_⟩
  · have a1 := h1 i hi
    have a2 := h1' i hi
    have a3 := h1' (f i) a1.1
    have a4 := h1 (g' i) a2.2.1
    refine ⟨a3.1, a4.2.1, ?_, ?_⟩
    · show f' (f (g (g' i))) = i
      rw [a4.2.2.1, a2.2.2.1]
    · show g (g' (f' (f i))) = i
      rw [a3.2.2.2, a1.2.2.2]
  · unfold thL
    have : (p.map fun x => q.getD x.toNat 0).getD i 0 = q.getD (p.getD i 0).toNat 0 := by
      simp only [List.getD_eq_getElem?_getD, List.getElem?_map]
      rw [List.getElem?_eq_getElem (by omega)]; rfl
    rw [this, h2 i hi, Int.toNat_natCast, h2' _ (h1 i hi).1]
theorem unit_pf (n : Nat) : IsPf n (unitL n) id id := ⟨unitL_len n, fun i h => ⟨h, h, rfl, rfl⟩, fun i h => unitL_get n i h⟩
theorem pf_ext {n : Nat} {p q : List Int} {f g f' g' : Nat → Nat} (h : IsPf n p f g) (k : IsPf n q f' g') (e : ∀ i, i < n → f i = f' i) : p = q := by
  apply List.ext_getElem
  · rw [h.1, k.1]
  · intro i h1 h2
    rw [h.1] at h1
    have a := h.2.2 i h1
    have b := k.2.2 i h1
    rw [getD_at (by rw [h.1]; exact h1)] at a
    rw [getD_at (by rw [k.1]; exact h1)] at b
    rw [a, b, e i h1]

/-- what renaming does to the values -/
theorem rn_tv {n : Nat} {t : List (List Int)} {p : List Int} {f g : Nat → Nat} (hp : IsPf n p f g) (hs : Sq n t) {x y : Nat} (hx : x < n) (hy : y < n) : rnV t p x y = ((f (tv t (g x) (g y)) : Nat) : Int) := by
  have hb := (backF_pf hp).2.2
  unfold rnV
  rw [hb x hx, hb y hy, Int.toNat_natCast, Int.toNat_natCast]
  exact hp.2.2 _ (hs.lt (hp.2.1 x hx).2.1 (hp.2.1 y hy).2.1)
theorem rnL_tv {n : Nat} {t : List (List Int)} {p : List Int} {f g : Nat → Nat} (hp : IsPf n p f g) (hs : Sq n t) {x y : Nat} (hx : x < n) (hy : y < n) : tv (rnL n t p) x y = f (tv t (g x) (g y)) := by
  unfold rnL; rw [tabF_tv hx hy, rn_tv hp hs hx hy, Int.toNat_natCast]
theorem rnL_sq {n : Nat} {t : List (List Int)} {p : List Int} (hp : IsP n p) (hs : Sq n t) : Sq n (rnL n t p) := by
  obtain ⟨f, g, hp⟩ := isP_of hp
  refine tabF_sqI fun x y hx hy => ?_
  rw [rn_tv hp hs hx hy]
  have := (hp.2.1 _ (hs.lt (hp.2.1 x hx).2.1 (hp.2.1 y hy).2.1)).1
  omega
theorem rnL_th {n : Nat} {t : List (List Int)} {p q : List Int} (hp : IsP n p) (hq : IsP n q) (hs : Sq n t) : rnL n (rnL n t p) q = rnL n t (thL p q) := by
  have s1 := rnL_sq hp hs
  have s2 := rnL_sq hq s1
  have s3 := rnL_sq (thL_isP hp hq) hs
  obtain ⟨f, g, hp⟩ := isP_of hp
  obtain ⟨f', g', hq⟩ := isP_of hq
  refine sq_ext s2 s3 fun x y hx hy => ?_
  rw [rnL_tv hq s1 hx hy, rnL_tv hp hs (hq.2.1 x hx).2.1 (hq.2.1 y hy).2.1, rnL_tv (thL_pf hp hq) hs hx hy]
theorem rnL_unit {n : Nat} {t : List (List Int)} (hs : Sq n t) : rnL n t (unitL n) = t := by
  refine sq_ext (rnL_sq (unit_isP n) hs) hs fun x y hx hy => ?_
  rw [rnL_tv (unit_pf n) hs hx hy]; rfl
theorem rnL_back {n : Nat} {t : List (List Int)} {p : List Int} (hp : IsP n p) (hs : Sq n t) : rnL n (rnL n t p) (backF p) = t := by
  rw [rnL_th hp (back_isP hp) hs]
  obtain ⟨f, g, hp⟩ := isP_of hp
  have : thL p (backF p) = unitL n := pf_ext (thL_pf hp (backF_pf hp)) (unit_pf n) fun i hi => (hp.2.1 i hi).2.2.2
  rw [this, rnL_unit hs]
theorem thL_inj {n : Nat} {p p' q : List Int} (hp : IsP n p) (hp' : IsP n p') (hq : IsP n q) (e : thL p q = thL p' q) : p = p' := by
  obtain ⟨f, g, hp⟩ := isP_of hp
  obtain ⟨f', g', hp'⟩ := isP_of hp'
  obtain ⟨h, k, hq⟩ := isP_of hq
  refine pf_ext hp hp' fun i hi => ?_
  have a := (thL_pf hp hq).2.2 i hi
  have b := (thL_pf hp' hq).2.2 i hi
  rw [e, b] at a
  have a : h (f' i) = h (f i) := Int.ofNat.inj a
  have := congrArg k a
  rw [(hq.2.1 _ (hp'.2.1 i hi).1).2.2.2, (hq.2.1 _ (hp.2.1 i hi).1).2.2.2] at this
  exact this.symm
/-! the list of all permutations is the group -/
theorem prm_get {n : Nat} (h1 : 1 ≤ n) (h4 : n ≤ 4) {p : List Int} (h : p ∈ prmL n) : IsP n p := by
  obtain ⟨i, hi, e⟩ := List.getElem_of_mem h
  have := prm_isP h1 h4 i hi
  rwa [List.getD_eq_getElem?_getD, List.getElem?_eq_getElem hi, Option.getD_some, e] at this
theorem prm_put {n : Nat} (h4 : n ≤ 4) {p : List Int} (h : IsP n p) : p ∈ prmL n := prm_of h4 h.len h.mem (isP_perm h)
theorem prm_nd : ∀ n : Fin 5, (prmL n.1).Nodup := by decide +kernel
theorem rnL_wrk {n : Nat} (h1 : 1 ≤ n) (h4 : n ≤ 4) : Wrk (prmL n) (fun p t => rnL n t p) thL (Sq n) where
  nd := prm_nd ⟨n, by omega⟩
  st := fun t ht p hp => rnL_sq (prm_get h1 h4 hp) ht
  cm := fun p q hp hq => prm_put h4 (thL_isP (prm_get h1 h4 hp) (prm_get h1 h4 hq))
  ac := fun p q hp hq t ht => rnL_th (prm_get h1 h4 hp) (prm_get h1 h4 hq) ht
  un := ⟨unitL n, prm_put h4 (unit_isP n), fun t ht => rnL_unit ht⟩
  bk := fun p hp => ⟨backF p, prm_put h4 (back_isP (prm_get h1 h4 hp)), fun t ht => rnL_back (prm_get h1 h4 hp) ht⟩
  ij := fun p p' q hp hp' hq e => thL_inj (prm_get h1 h4 hp) (prm_get h1 h4 hp') (prm_get h1 h4 hq) e
theorem least_lfm (n : Nat) (t : List (List Int)) : leastL n t = lfm cmpT (fun p t => rnL n t p) (prmL n) t := by
  unfold leastL lfm minL
  rw [List.foldl_map]; rfl
end Go.Proofs.Ythgafpeblpnolaa
