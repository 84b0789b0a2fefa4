/-
  The cycle sets of a list: how many there are.
  No condition.
-/
import Derived.Test.YthgafpeblpnolaaCyLC
import Derived.Test.YthgafpeblpnolaaCykP
namespace Go.Proofs.Ythgafpeblpnolaa
set_option maxRecDepth 100000
set_option linter.unusedVariables false
set_option linter.unusedSimpArgs false

theorem cyf_iff {n : Nat} {t : List (List Int)} (hs : Sq n t) : cyfOk n t = true ↔ ∀ x y z, x < n → y < n → z < n → tv t (tv t x y) (tv t x z) = tv t (tv t y x) (tv t y z) := by
  have v : ∀ u v, u < n → v < n → cyV t u v = ((tv t u v : Nat) : Int) := fun u v hu hv => by unfold cyV; exact hs.val hu hv
  have key : ∀ x y z, x < n → y < n → z < n → (cyfP t x y z = true ↔ tv t (tv t x y) (tv t x z) = tv t (tv t y x) (tv t y z)) := fun x y z hx hy hz => by
    unfold cyfP
    rw [decide_eq_true_iff, v x y hx hy, v x z hx hz, v y x hy hx, v y z hy hz, Int.toNat_natCast, Int.toNat_natCast, Int.toNat_natCast, Int.toNat_natCast, v _ _ (hs.lt hx hy) (hs.lt hx hz), v _ _ (hs.lt hy hx) (hs.lt hy hz)]
    exact ⟨fun h => Int.ofNat.inj h, fun h => by rw [h]⟩
  constructor
  · intro h x y z hx hy hz
    exact (key x y z hx hy hz).1 (List.all_eq_true.1 (List.all_eq_true.1 (List.all_eq_true.1 h x (List.mem_range.2 hx)) y (List.mem_range.2 hy)) z (List.mem_range.2 hz))
  · intro h
    refine List.all_eq_true.2 fun x hx => List.all_eq_true.2 fun y hy => List.all_eq_true.2 fun z hz => ?_
    have hx := List.mem_range.1 hx; have hy := List.mem_range.1 hy; have hz := List.mem_range.1 hz
    exact (key x y z hx hy hz).2 (h x y z hx hy hz)
theorem cyf_rn {n : Nat} {t : List (List Int)} {p : List Int} (hs : Sq n t) (hp : IsP n p) (h : cyfOk n t = true) : cyfOk n (rnL n t p) = true := by
  rw [cyf_iff (rnL_sq hp hs)]
  rw [cyf_iff hs] at h
  obtain ⟨φ, ψ, hp⟩ := isP_of hp
  have A := fun a b (ha : a < n) (hb : b < n) => rnL_tv hp hs (x := a) (y := b) ha hb
  have k1 := fun i (hi : i < n) => (hp.2.1 i hi).1
  have k2 := fun i (hi : i < n) => (hp.2.1 i hi).2.1
  have k3 := fun i (hi : i < n) => (hp.2.1 i hi).2.2.2
  have k4 := fun a b (ha : a < n) (hb : b < n) => hs.lt (x := a) (y := b) ha hb
  intro x y z hx hy hz
  have e := h (ψ x) (ψ y) (ψ z) (k2 x hx) (k2 y hy) (k2 z hz)
  have c1 := k4 _ _ (k2 x hx) (k2 y hy)
  have c2 := k4 _ _ (k2 x hx) (k2 z hz)
  have c3 := k4 _ _ (k2 y hy) (k2 x hx)
  have c4 := k4 _ _ (k2 y hy) (k2 z hz)
  rw [A x y hx hy, A x z hx hz, A y x hy hx, A y z hy hz, A _ _ (k1 _ c1) (k1 _ c2), A _ _ (k1 _ c3) (k1 _ c4), k3 _ c1, k3 _ c2, k3 _ c3, k3 _ c4, e]
theorem sqr_iff {n : Nat} {t : List (List Int)} (hp : RwsP n t) : permOk (sqrL n t) = true ↔ ∀ x y, x < n → y < n → tv t x x = tv t y y → x = y := by
  have hs := hp.sq
  have v : ∀ u v, u < n → v < n → cyV t u v = ((tv t u v : Nat) : Int) := fun u v hu hv => by unfold cyV; exact hs.val hu hv
  rw [cyS_perm hp]
  constructor
  · intro h x y hx hy e
    have key : ∀ a b, b < n → a < b → tv t a a ≠ tv t b b := fun a b hb hab e => by
      have := List.all_eq_true.1 (List.all_eq_true.1 h b (List.mem_range.2 hb)) a (List.mem_range.2 hab)
      rw [v a a (by omega) (by omega), v b b hb hb, e] at this
      simp at this
    rcases Nat.lt_trichotomy x y with hlt | heq | hgt
    · exact absurd e (key x y hy hlt)
    · exact heq
    · exact absurd e.symm (key y x hx hgt)
  · intro h
    refine List.all_eq_true.2 fun x hx => List.all_eq_true.2 fun y hy => ?_
    have hx := List.mem_range.1 hx
    have hy := List.mem_range.1 hy
    rw [v y y (by omega) (by omega), v x x hx hx]
    rw [Bool.not_eq_true', decide_eq_false_iff_not]
    intro e
    have := h y x (by omega) hx (Int.ofNat.inj e)
    omega
theorem isP_rows {n : Nat} (h1 : 1 ≤ n) (h4 : n ≤ 4) {t : List (List Int)} : t ∈ allT (prmL n) n [] ↔ RwsP n t := by
  constructor
  · exact allT_rwsP h1 h4
  · intro h
    have := allT_of (ps := prmL n) n [] t h.1 (fun p hp => by
      obtain ⟨i, hi, rfl⟩ := List.getElem_of_mem hp
      have := h.2 i (by rw [← h.1]; exact hi)
      rw [List.getD_eq_getElem?_getD, List.getElem?_eq_getElem hi, Option.getD_some] at this
      exact prm_put h4 this)
    simpa using this
theorem rws_rn {n : Nat} {t : List (List Int)} {p : List Int} (h : RwsP n t) (hp : IsP n p) : RwsP n (rnL n t p) := by
  have hs := h.sq
  have hs2 := rnL_sq hp hs
  refine ⟨hs2.len, fun x hx => ?_⟩
  obtain ⟨f, g, hp⟩ := isP_of hp
  obtain ⟨F, G, hF⟩ := isP_of (h.2 (g x) (hp.2.1 x hx).2.1)
  refine ⟨fun y => f (F (g y)), fun y => f (G (g y)), hs2.row hx, fun y hy => ?_, fun y hy => ?_⟩
  · have a1 := hp.2.1 y hy
    have a2 := hF.2.1 (g y) a1.2.1
    have a3 := hp.2.1 (F (g y)) a2.1
    have a4 := hp.2.1 (G (g y)) a2.2.1
    refine ⟨a3.1, a4.1, ?_, ?_⟩
    · show f (F (g (f (G (g y))))) = y
      rw [a4.2.2.2, a2.2.2.1, a1.2.2.1]
    · show f (G (g (f (F (g y))))) = y
      rw [a3.2.2.2, a2.2.2.2, a1.2.2.1]
  · rw [hs2.val hx hy, rnL_tv hp hs hx hy]
    have a1 := (hp.2.1 y hy).2.1
    have := hF.2.2 (g y) a1
    rw [hs.val (hp.2.1 x hx).2.1 a1] at this
    have : tv t (g x) (g y) = F (g y) := Int.ofNat.inj this
    rw [this]
theorem cy_in {n : Nat} (h1 : 1 ≤ n) (h4 : n ≤ 4) {t : List (List Int)} : t ∈ rowL n (cycR n) ↔ RwsP n t ∧ isCyc n t = true := by
  rw [rowL_filter h1 (cycR_pre n), List.mem_filter, isP_rows h1 h4]
  exact ⟨fun ⟨a, b⟩ => ⟨a, by rw [← cycR_full a]; exact b⟩, fun ⟨a, b⟩ => ⟨a, by rw [cycR_full a]; exact b⟩⟩
theorem cy_rn {n : Nat} (h1 : 1 ≤ n) (h4 : n ≤ 4) : ∀ t, t ∈ rowL n (cycR n) → ∀ p, IsP n p → rnL n t p ∈ rowL n (cycR n) := by
  intro t ht p hp
  rw [cy_in h1 h4] at ht ⊢
  obtain ⟨hr, hc⟩ := ht
  have hr2 := rws_rn hr hp
  unfold isCyc at hc ⊢
  rw [Bool.and_eq_true] at hc ⊢
  refine ⟨hr2, ?_, cyf_rn hr.sq hp hc.2⟩
  have h := (sqr_iff hr).1 hc.1
  rw [sqr_iff hr2]
  obtain ⟨φ, ψ, hp⟩ := isP_of hp
  intro x y hx hy e
  have kx := hp.2.1 x hx
  have ky := hp.2.1 y hy
  rw [rnL_tv hp hr.sq hx hx, rnL_tv hp hr.sq hy hy] at e
  have e := congrArg ψ e
  rw [(hp.2.1 _ (hr.sq.lt kx.2.1 kx.2.1)).2.2.2, (hp.2.1 _ (hr.sq.lt ky.2.1 ky.2.1)).2.2.2] at e
  have e := congrArg φ (h _ _ kx.2.1 ky.2.1 e)
  rwa [kx.2.2.1, ky.2.2.1] at e
/-- as many cycle sets of a list as there should be -/
theorem cy_lens {n : Nat} (h1 : 1 ≤ n) (h4 : n ≤ 4) : ((rowL n (cycR n)).filter (lstB n)).length = [0, 1, 2, 5, 23].getD n 0 := by
  by_cases h : n = 4
  · subst h
    rw [cert_all h1 h4 (cycR_pre 4) (cy_rn h1 h4) cyR4_nd cyR4_ok (by rw [cyR4_sum, cy_len4])]
    rfl
  · have := cy_small ⟨n, by omega⟩ h1
    rw [this]
    have hq : n = 1 ∨ n = 2 ∨ n = 3 := by omega
    rcases hq with rfl | rfl | rfl <;> rfl
end Go.Proofs.Ythgafpeblpnolaa
