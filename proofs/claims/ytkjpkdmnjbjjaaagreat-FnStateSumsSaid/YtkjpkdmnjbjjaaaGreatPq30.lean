/-
  Walks and plain laws of this seat, some texts in one.
  No condition but bounds on lengths.
-/
import Derived.Test.YtkjpkdmnjbjjaaaGreatPq20
namespace Go.Proofs.YtkjpkdmnjbjjaaaGreat
set_option linter.unusedVariables false
set_option linter.unusedSimpArgs false
theorem actL_app (n : Nat) (f g : List (List Int)) (xs ys l : List Int) : actL n f g (xs ++ ys) l = actL n f g ys (actL n f g xs l) := by unfold actL; rw [List.foldl_append]
theorem doF_get {f g : List (List Int)} {i : Nat} {l : List Int} {x y : Nat} (hx : l.getD i 0 = (x : Int)) (hy : l.getD (i + 1) 0 = (y : Int)) (k : Nat) (hk : k < l.length) : (doF f g i l).getD k 0 = if k = i + 1 then ((tv g x y : Nat) : Int) else if k = i then ((tv f x y : Nat) : Int) else l.getD k 0 := by
  unfold doF
  rw [hx, hy, Int.toNat_natCast, Int.toNat_natCast, getD_set' _ _ _ _ _ (by rw [List.length_set]; exact hk)]
  split
  · rfl
  · rw [getD_set' _ _ _ _ _ hk]
theorem doF_back {n : Nat} {f g f' g' : List (List Int)} (hb : ∀ x y, x < n → y < n → tv f' (tv f x y) (tv g x y) = x ∧ tv g' (tv f x y) (tv g x y) = y) {i : Nat} {l : List Int} (hi : i + 1 < l.length) (h : Less n l) : doF f' g' i (doF f g i l) = l := by
  obtain ⟨x, hx, ex⟩ := h i (by omega)
  obtain ⟨y, hy, ey⟩ := h (i + 1) hi
  obtain ⟨h1, h2⟩ := hb x y hx hy
  have e1 : (doF f g i l).getD i 0 = ((tv f x y : Nat) : Int) := by rw [doF_get ex ey i (by omega), if_neg (by omega), if_pos rfl]
  have e2 : (doF f g i l).getD (i + 1) 0 = ((tv g x y : Nat) : Int) := by rw [doF_get ex ey (i + 1) hi, if_pos rfl]
  refine list_ext0 (by rw [doF_len, doF_len]) fun k hk => ?_
  have hk' : k < l.length := by rw [doF_len, doF_len] at hk; exact hk
  rw [doF_get e1 e2 k (by rw [doF_len]; exact hk'), h1, h2]
  split
  · rename_i e; rw [e, ey]
  · split
    · rename_i e; rw [e, ex]
    · rw [doF_get ex ey k hk']; rename_i n1 n2; rw [if_neg n1, if_neg n2]
theorem plc_neg {x : Int} (h : x ≠ 0) : plc (-x) = plc x := by
  unfold plc
  by_cases q : x < 0
  · rw [if_pos q, if_neg (by omega)]
  · rw [if_neg q, if_pos (by omega)]; omega
theorem step_back {n : Nat} {f g : List (List Int)} (hn : 1 ≤ n) (hf : Sq n f) (hg : Sq n g) (hc : collOk n f g = true) {x : Int} {l : List Int} (hx : x ≠ 0) (hi : (plc x).toNat + 1 < l.length) (h : Less n l) : stepL n f g (-x) (stepL n f g x l) = l := by
  have h1 : ∀ x y, x < n → y < n → tv (bfT n f g) (tv f x y) (tv g x y) = x ∧ tv (bgT n f g) (tv f x y) (tv g x y) = y := fun x y hx hy =>
    ⟨bf_tv hn hc hx hy (hf.lt hx hy) (hg.lt hx hy) rfl rfl, bg_tv hn hc hx hy (hf.lt hx hy) (hg.lt hx hy) rfl rfl⟩
  have h2 : ∀ u v, u < n → v < n → tv f (tv (bfT n f g) u v) (tv (bgT n f g) u v) = u ∧ tv g (tv (bfT n f g) u v) (tv (bgT n f g) u v) = v := fun u v hu hv => by
    obtain ⟨x, y, hx, hy, e1, e2⟩ := pr_ex hn hf hg hc hu hv
    rw [bf_tv hn hc hx hy hu hv e1 e2, bg_tv hn hc hx hy hu hv e1 e2]
    exact ⟨e1, e2⟩
  unfold stepL
  rw [plc_neg hx]
  by_cases q : 0 < x
  · rw [if_pos q, if_neg (by omega)]
    exact doF_back h1 hi h
  · rw [if_neg q, if_pos (by omega)]
    exact doF_back h2 hi h
theorem digL_num {n s : Nat} (hn : 1 ≤ n) {l : List Int} (hl : l.length = s) (h : Less n l) : digL n s (numL n l) = l := by
  have h1 := numL_lt hn h
  rw [hl] at h1
  exact (num_inj hn (digL n s (numL n l)) l 0 0 (by rw [digL_len, hl]) (digL_less n s _ hn).mem h.mem (numL_dig s _ h1)).2
end Go.Proofs.YtkjpkdmnjbjjaaaGreat
