/-
  Equal braids have the same strands' permutation, the same sum, and lead each tuple to the same one.
  No condition.
-/
import Derived.Test.YtdkpalllfekiiaaGreatRepL
import Derived.Test.YtdkpalllfekiiaaGreatActP
import Derived.Test.YtdkpalllfekiiaaGreatNbI
import Derived.Test.YtdkpalllfekiiaaGreatBase2
import Derived.Test.YtdkpalllfekiiaaGreatBase7
namespace Go.Proofs.YtdkpalllfekiiaaGreat
set_option maxRecDepth 100000
set_option linter.unusedVariables false
set_option linter.unusedSimpArgs false

theorem plN_plc (x : Int) : (plc x).toNat = plN x := by unfold plc plN; split <;> rfl
theorem ltr_pos {n : Nat} {x : Int} (h : Ltr n x) (c : 0 < x) : ((plN x : Nat) : Int) + 1 = x := by unfold plN; rw [if_neg (by omega)]; omega
theorem ltr_neg {n : Nat} {x : Int} (h : Ltr n x) (c : ¬ 0 < x) : -(((plN x : Nat) : Int) + 1) = x := by
  have := h.1
  unfold plN; rw [if_pos (by omega)]; omega
theorem list_ext0' {l l' : List Int} (hl : l.length = l'.length) (h : ∀ i, i < l.length → l.getD i 0 = l'.getD i 0) : l = l' := by
  refine List.ext_getElem hl fun i h1 h2 => ?_
  have := h i h1
  simpa [List.getD_eq_getElem?_getD, h1, h2] using this

/-! ### the action -/
def nv (l : List Int) (i : Nat) : Nat := (l.getD i 0).toNat
theorem doF_getR {f g : List (List Int)} {i j : Nat} {l : List Int} (hi : i + 1 < l.length) (hj : j < l.length) : (doF f g i l).getD j 0 = if j = i then ((tv f (nv l i) (nv l (i + 1)) : Nat) : Int) else if j = i + 1 then ((tv g (nv l i) (nv l (i + 1)) : Nat) : Int) else l.getD j 0 := by
  unfold doF nv
  rw [getD_set' _ _ _ _ _ (by rw [List.length_set]; exact hj), getD_set' _ _ _ _ _ hj]
  by_cases e : j = i + 1
  · rw [if_pos e, if_neg (by omega), if_pos e]
  · rw [if_neg e]
    by_cases e2 : j = i
    · rw [if_pos e2, if_pos e2]
    · rw [if_neg e2, if_neg e2, if_neg e]
theorem doF_nv {f g : List (List Int)} {i j : Nat} {l : List Int} (hi : i + 1 < l.length) (hj : j < l.length) : nv (doF f g i l) j = if j = i then tv f (nv l i) (nv l (i + 1)) else if j = i + 1 then tv g (nv l i) (nv l (i + 1)) else nv l j := by
  have := doF_getR (f := f) (g := g) hi hj
  unfold nv at *
  rw [this]
  split
  · simp
  · split
    · simp
    · rfl
theorem doF_far {f g : List (List Int)} {k m : Nat} {l : List Int} (hkm : k + 1 < m) (hm : m + 1 < l.length) : doF f g m (doF f g k l) = doF f g k (doF f g m l) := by
  have h1 : (doF f g k l).length = l.length := doF_len _ _ _ _
  have h2 : (doF f g m l).length = l.length := doF_len _ _ _ _
  refine list_ext0' (by rw [doF_len, doF_len, doF_len, doF_len]) fun j hj => ?_
  rw [doF_len, doF_len] at hj
  rw [doF_getR (by omega) (by omega), doF_getR (l := doF f g m l) (by omega) (by omega), doF_nv (by omega) (by omega), doF_nv (by omega) (by omega), doF_nv (i := m) (by omega) (by omega), doF_nv (i := m) (by omega) (by omega), doF_getR (by omega) hj, doF_getR (by omega) hj]
  rw [if_neg (show ¬ m = k by omega), if_neg (show ¬ m = k + 1 by omega), if_neg (show ¬ m + 1 = k by omega), if_neg (show ¬ m + 1 = k + 1 by omega), if_neg (show ¬ k = m by omega), if_neg (show ¬ k = m + 1 by omega), if_neg (show ¬ k + 1 = m by omega), if_neg (show ¬ k + 1 = m + 1 by omega)]
  by_cases e1 : j = m
  · rw [if_pos e1, if_neg (show ¬ j = k by omega), if_neg (show ¬ j = k + 1 by omega), if_pos e1]
  · rw [if_neg e1]
    by_cases e2 : j = m + 1
    · rw [if_pos e2, if_neg (show ¬ j = k by omega), if_neg (show ¬ j = k + 1 by omega), if_neg e1, if_pos e2]
    · rw [if_neg e2, if_neg e1, if_neg e2]
def YbE (n : Nat) (f g : List (List Int)) : Prop := ∀ x y z, x < n → y < n → z < n → tv f (tv f x y) (tv f (tv g x y) z) = tv f x (tv f y z) ∧ tv g (tv f x y) (tv f (tv g x y) z) = tv f (tv g x (tv f y z)) (tv g y z) ∧ tv g (tv g x y) z = tv g (tv g x (tv f y z)) (tv g y z)
theorem doF_near {n : Nat} {f g : List (List Int)} (hE : YbE n f g) {k : Nat} {l : List Int} (hk : k + 2 < l.length) (hl : Less n l) : doF f g k (doF f g (k + 1) (doF f g k l)) = doF f g (k + 1) (doF f g k (doF f g (k + 1) l)) := by
  have hnv : ∀ i, i < l.length → nv l i < n := fun i hi => by obtain ⟨x, hx, e⟩ := hl i hi; unfold nv; rw [e]; simpa using hx
  obtain ⟨y1, y2, y3⟩ := hE _ _ _ (hnv k (by omega)) (hnv (k + 1) (by omega)) (hnv (k + 1 + 1) (by omega))
  have L1 : (doF f g k l).length = l.length := doF_len _ _ _ _
  have L2 : (doF f g (k + 1) (doF f g k l)).length = l.length := by rw [doF_len, L1]
  have M1 : (doF f g (k + 1) l).length = l.length := doF_len _ _ _ _
  have M2 : (doF f g k (doF f g (k + 1) l)).length = l.length := by rw [doF_len, M1]
  -- one way
  have a0 : nv (doF f g k l) k = tv f (nv l k) (nv l (k + 1)) := by rw [doF_nv (by omega) (by omega), if_pos rfl]
  have a1 : nv (doF f g k l) (k + 1) = tv g (nv l k) (nv l (k + 1)) := by rw [doF_nv (by omega) (by omega), if_neg (by omega), if_pos rfl]
  have a2 : nv (doF f g k l) (k + 1 + 1) = nv l (k + 1 + 1) := by rw [doF_nv (by omega) (by omega), if_neg (by omega), if_neg (by omega)]
  have b0 : nv (doF f g (k + 1) (doF f g k l)) k = tv f (nv l k) (nv l (k + 1)) := by rw [doF_nv (by omega) (by omega), if_neg (by omega), if_neg (by omega), a0]
  have b1 : nv (doF f g (k + 1) (doF f g k l)) (k + 1) = tv f (tv g (nv l k) (nv l (k + 1))) (nv l (k + 1 + 1)) := by rw [doF_nv (by omega) (by omega), if_pos rfl, a1, a2]
  -- the other one
  have c0 : nv (doF f g (k + 1) l) k = nv l k := by rw [doF_nv (by omega) (by omega), if_neg (by omega), if_neg (by omega)]
  have c1 : nv (doF f g (k + 1) l) (k + 1) = tv f (nv l (k + 1)) (nv l (k + 1 + 1)) := by rw [doF_nv (by omega) (by omega), if_pos rfl]
  have c2 : nv (doF f g (k + 1) l) (k + 1 + 1) = tv g (nv l (k + 1)) (nv l (k + 1 + 1)) := by rw [doF_nv (by omega) (by omega), if_neg (by omega), if_pos rfl]
  have d1 : nv (doF f g k (doF f g (k + 1) l)) (k + 1) = tv g (nv l k) (tv f (nv l (k + 1)) (nv l (k + 1 + 1))) := by rw [doF_nv (by omega) (by omega), if_neg (by omega), if_pos rfl, c0, c1]
  have d2 : nv (doF f g k (doF f g (k + 1) l)) (k + 1 + 1) = tv g (nv l (k + 1)) (nv l (k + 1 + 1)) := by rw [doF_nv (by omega) (by omega), if_neg (by omega), if_neg (by omega), c2]
  refine list_ext0' (by simp only [doF_len]) fun j hj => ?_
  simp only [doF_len] at hj
  rw [doF_getR (l := doF f g (k + 1) (doF f g k l)) (by omega) (by omega), doF_getR (l := doF f g k (doF f g (k + 1) l)) (by omega) (by omega), b0, b1, d1, d2]
  by_cases e0 : j = k
  · rw [if_pos e0, if_neg (by omega), if_neg (by omega), doF_getR (by omega) (by omega), if_pos e0, c0, c1, y1]
  · rw [if_neg e0]
    by_cases e1 : j = k + 1
    · rw [if_pos e1, if_pos e1, y2]
    · rw [if_neg e1, if_neg e1]
      by_cases e2 : j = k + 1 + 1
      · rw [if_pos e2, doF_getR (by omega) (by omega), if_neg (by omega), if_pos e2, a1, a2, y3]
      · rw [if_neg e2, doF_getR (by omega) (by omega), if_neg e1, if_neg e2, doF_getR (by omega) (by omega), if_neg e0, if_neg e1, doF_getR (by omega) (by omega), if_neg e0, if_neg e1, doF_getR (by omega) (by omega), if_neg e1, if_neg e2]
structure SolP (n : Nat) (f g : List (List Int)) : Prop where
  pos : 1 ≤ n
  sf : Sq n f
  sg : Sq n g
  coll : collOk n f g = true
  eq : YbE n f g
abbrev Tup (s n : Nat) : Type := {l : List Int // l.length = s ∧ Less n l}
def stepT {s n : Nat} {f g : List (List Int)} (h : SolP n f g) (x : Int) (hx : plN x + 1 < s) (l : Tup s n) : Tup s n :=
  ⟨stepL n f g x l.1, by rw [stepL_len]; exact l.2.1, l.2.2.step h.pos h.sf h.sg h.coll x (by rw [plN_plc, l.2.1]; exact hx)⟩
theorem stepT_val {s n : Nat} {f g : List (List Int)} (h : SolP n f g) (x : Int) (hx : plN x + 1 < s) (l : Tup s n) : (stepT h x hx l).1 = stepL n f g x l.1 := rfl
theorem plN_one (k : Nat) : plN ((k : Int) + 1) = k := plN_suc k
theorem stepL_one {n : Nat} {f g : List (List Int)} (k : Nat) (l : List Int) : stepL n f g ((k : Int) + 1) l = doF f g k l := by
  unfold stepL; rw [if_pos (by omega), plN_plc, plN_one]
def repA {s n : Nat} {f g : List (List Int)} (h : SolP n f g) : Rep s (Tup s n → Tup s n) where
  mul a b := fun l => b (a l)
  one := fun l => l
  assoc _ _ _ := rfl
  one_mul _ := rfl
  mul_one _ := rfl
  s k := if hk : k + 1 < s then stepT h ((k : Int) + 1) (by rw [plN_one]; exact hk) else fun l => l
  t k := if hk : k + 1 < s then stepT h (-((k : Int) + 1)) (by rw [plN_neg, plN_one]; exact hk) else fun l => l
  st k hk := by
    funext l
    rw [dif_pos hk, dif_pos hk]
    refine Subtype.ext ?_
    rw [stepT_val, stepT_val]
    exact step_back h.pos h.sf h.sg h.coll (by omega) (by rw [plN_plc, plN_one, l.2.1]; exact hk) l.2.2
  ts k hk := by
    funext l
    rw [dif_pos hk, dif_pos hk]
    refine Subtype.ext ?_
    rw [stepT_val, stepT_val]
    have := step_back h.pos h.sf h.sg h.coll (x := -((k : Int) + 1)) (l := l.1) (by omega) (by rw [plN_plc, plN_neg, plN_one, l.2.1]; exact hk) l.2.2
    rwa [Int.neg_neg] at this
  far k m hkm hm := by
    funext l
    rw [dif_pos (show k + 1 < s by omega), dif_pos hm]
    refine Subtype.ext ?_
    rw [stepT_val, stepT_val, stepT_val, stepT_val, stepL_one, stepL_one, stepL_one, stepL_one]
    exact doF_far hkm (by rw [l.2.1]; exact hm)
  near k hk := by
    funext l
    rw [dif_pos (show k + 1 < s by omega), dif_pos (show k + 1 + 1 < s by omega)]
    refine Subtype.ext ?_
    rw [stepT_val, stepT_val, stepT_val, stepT_val, stepT_val, stepT_val, stepL_one, stepL_one, stepL_one, stepL_one, stepL_one, stepL_one]
    exact doF_near h.eq (by rw [l.2.1]; exact hk) l.2.2
theorem repA_wv {s n : Nat} {f g : List (List Int)} (h : SolP n f g) : ∀ (xs : List Int) (a : Tup s n → Tup s n) (l : Tup s n), (∀ x ∈ xs, Ltr s x) → ((xs.foldl (fun a x => (repA h).mul a (lt1 (repA h) x)) a) l).1 = actL n f g xs (a l).1 := by
  intro xs
  induction xs with
  | nil => intro a l _; rfl
  | cons x xs ih =>
    intro a l hx
    have hl := hx x (by simp)
    rw [List.foldl_cons, ih _ l fun y hy => hx y (by simp [hy])]
    show actL n f g xs (lt1 (repA h) x (a l)).1 = actL n f g xs (stepL n f g x (a l).1)
    congr 1
    unfold lt1
    by_cases c : 0 < x
    · rw [if_pos c]
      show ((if hk : plN x + 1 < s then stepT h (((plN x : Nat) : Int) + 1) (by rw [plN_one]; exact hk) else fun l => l) (a l)).1 = _
      rw [dif_pos hl.2, stepT_val, ltr_pos hl c]
    · rw [if_neg c]
      show ((if hk : plN x + 1 < s then stepT h (-(((plN x : Nat) : Int) + 1)) (by rw [plN_neg, plN_one]; exact hk) else fun l => l) (a l)).1 = _
      rw [dif_pos hl.2, stepT_val, ltr_neg hl c]
/-- equal braids lead each tuple to the same one -/
theorem act_same {s n : Nat} {f g : List (List Int)} (h : SolP n f g) {xs ys : List Int} (hx : ∀ x ∈ xs, Ltr s x) (hy : ∀ x ∈ ys, Ltr s x) {r : Int × List (List Int)} (h1 : NFo s (begS s (0, []) xs) r) (h2 : NFo s (begS s (0, []) ys) r) {l : List Int} (hl : l.length = s) (hle : Less n l) :
    actL n f g xs l = actL n f g ys l := by
  have e := rep_eq (repA h) hx hy h1 h2
  have e1 := repA_wv h xs (fun l => l) ⟨l, hl, hle⟩ hx
  have e2 := repA_wv h ys (fun l => l) ⟨l, hl, hle⟩ hy
  have e3 := congrArg (fun F : Tup s n → Tup s n => (F ⟨l, hl, hle⟩).1) e
  exact e1.symm.trans (e3.trans e2)

/-! ### strands -/
theorem sig_sg (k i : Nat) : sig k i = sg k i := rfl
theorem swp_lenR (l : List Int) (k : Nat) : (swp l k).length = l.length := by unfold swp; simp
theorem swp_swp {l : List Int} {k : Nat} (h : k + 1 < l.length) : swp (swp l k) k = l := by
  refine list_ext0' (by rw [swp_lenR, swp_lenR]) fun i hi => ?_
  rw [swp_lenR, swp_lenR] at hi
  have hs := sig_lt k i l.length h hi
  rw [swp_get _ _ _ (by rw [swp_lenR]; exact h) (by rw [swp_lenR]; exact hi), swp_get _ _ _ h hs, sig_sig]
abbrev Lst (s : Nat) : Type := {l : List Int // l.length = s}
def swpT {s : Nat} (k : Nat) (l : Lst s) : Lst s := ⟨swp l.1 k, by rw [swp_lenR]; exact l.2⟩
def repP (s : Nat) : Rep s (Lst s → Lst s) where
  mul a b := fun l => b (a l)
  one := fun l => l
  assoc _ _ _ := rfl
  one_mul _ := rfl
  mul_one _ := rfl
  s k := swpT k
  t k := swpT k
  st k hk := by
    funext l
    exact Subtype.ext (swp_swp (by rw [l.2]; exact hk))
  ts k hk := by
    funext l
    exact Subtype.ext (swp_swp (by rw [l.2]; exact hk))
  far k m hkm hm := by
    funext l
    refine Subtype.ext ?_
    show swp (swp l.1 k) m = swp (swp l.1 m) k
    refine list_ext0' (by rw [swp_lenR, swp_lenR, swp_lenR, swp_lenR]) fun i hi => ?_
    rw [swp_lenR, swp_lenR, l.2] at hi
    have h1 := sig_lt m i s hm hi
    have h2 := sig_lt k i s (by omega) hi
    rw [swp_get _ _ _ (by rw [swp_lenR, l.2]; exact hm) (by rw [swp_lenR, l.2]; exact hi), swp_get _ _ _ (by rw [l.2]; omega) (by rw [l.2]; exact h1),
      swp_get _ _ _ (by rw [swp_lenR, l.2]; omega) (by rw [swp_lenR, l.2]; exact hi), swp_get _ _ _ (by rw [l.2]; exact hm) (by rw [l.2]; exact h2)]
    have e := congrArg (fun p : Pm => p.f i) (Pm.s_far hkm)
    have e : sg m (sg k i) = sg k (sg m i) := e
    rw [sig_sg, sig_sg, sig_sg, sig_sg, e]
  near k hk := by
    funext l
    refine Subtype.ext ?_
    show swp (swp (swp l.1 k) (k + 1)) k = swp (swp (swp l.1 (k + 1)) k) (k + 1)
    refine list_ext0' (by simp [swp_lenR]) fun i hi => ?_
    rw [swp_lenR, swp_lenR, swp_lenR, l.2] at hi
    have a1 := sig_lt k i s (by omega) hi
    have a2 := sig_lt (k + 1) _ s (by omega) a1
    have b1 := sig_lt (k + 1) i s (by omega) hi
    have b2 := sig_lt k _ s (by omega) b1
    rw [swp_get _ _ _ (by rw [swp_lenR, swp_lenR, l.2]; omega) (by rw [swp_lenR, swp_lenR, l.2]; exact hi), swp_get _ _ _ (by rw [swp_lenR, l.2]; omega) (by rw [swp_lenR, l.2]; exact a1), swp_get _ _ _ (by rw [l.2]; omega) (by rw [l.2]; exact a2),
      swp_get _ _ _ (by rw [swp_lenR, swp_lenR, l.2]; omega) (by rw [swp_lenR, swp_lenR, l.2]; exact hi), swp_get _ _ _ (by rw [swp_lenR, l.2]; omega) (by rw [swp_lenR, l.2]; exact b1), swp_get _ _ _ (by rw [l.2]; omega) (by rw [l.2]; exact b2)]
    have e := congrArg (fun p : Pm => p.f i) (Pm.s_near k)
    have e : sg k (sg (k + 1) (sg k i)) = sg (k + 1) (sg k (sg (k + 1) i)) := e
    simp only [sig_sg]
    rw [e]
theorem repP_wv {s : Nat} : ∀ (xs : List Int) (a : Lst s → Lst s) (l : Lst s), ((xs.foldl (fun a x => (repP s).mul a (lt1 (repP s) x)) a) l).1 = xs.foldl (fun l x => swp l (plc x).toNat) (a l).1 := by
  intro xs
  induction xs with
  | nil => intro a l; rfl
  | cons x xs ih =>
    intro a l
    rw [List.foldl_cons, ih, List.foldl_cons]
    congr 1
    show (lt1 (repP s) x (a l)).1 = _
    unfold lt1
    rw [plN_plc]
    split <;> rfl
theorem brP_same {s : Nat} {xs ys : List Int} (hx : ∀ x ∈ xs, Ltr s x) (hy : ∀ x ∈ ys, Ltr s x) {r : Int × List (List Int)} (h1 : NFo s (begS s (0, []) xs) r) (h2 : NFo s (begS s (0, []) ys) r) : brP s xs = brP s ys := by
  have e := rep_eq (repP s) hx hy h1 h2
  have hu : (unitL s).length = s := unitL_len s
  have e1 := repP_wv xs (fun l => l) (⟨unitL s, hu⟩ : Lst s)
  have e2 := repP_wv ys (fun l => l) (⟨unitL s, hu⟩ : Lst s)
  have e3 := congrArg (fun F : Lst s → Lst s => (F ⟨unitL s, hu⟩).1) e
  unfold brP strd
  exact congrArg backF (e1.symm.trans (e3.trans e2))
/-! ### sums -/
def repS (s : Nat) : Rep s Int where
  mul a b := a + b
  one := 0
  assoc a b c := Int.add_assoc a b c
  one_mul a := Int.zero_add a
  mul_one a := Int.add_zero a
  s _ := 1
  t _ := -1
  st _ _ := rfl
  ts _ _ := rfl
  far _ _ _ _ := rfl
  near _ _ := rfl
theorem repS_wv {s : Nat} : ∀ (xs : List Int) (a : Int), (∀ x ∈ xs, Ltr s x) → xs.foldl (fun a x => (repS s).mul a (lt1 (repS s) x)) a = (xs.map sgn).foldl (· + ·) a := by
  intro xs
  induction xs with
  | nil => intro a _; rfl
  | cons x xs ih =>
    intro a hx
    have hl := hx x (by simp)
    rw [List.foldl_cons, ih _ fun y hy => hx y (by simp [hy]), List.map_cons, List.foldl_cons]
    congr 1
    show a + lt1 (repS s) x = a + sgn x
    unfold lt1 sgn
    have := hl.1
    by_cases c : 0 < x
    · rw [if_pos c, if_neg (by omega)]; rfl
    · rw [if_neg c, if_pos (by omega)]; rfl
theorem sgS_same {s : Nat} {xs ys : List Int} (hx : ∀ x ∈ xs, Ltr s x) (hy : ∀ x ∈ ys, Ltr s x) {r : Int × List (List Int)} (h1 : NFo s (begS s (0, []) xs) r) (h2 : NFo s (begS s (0, []) ys) r) : sgS xs = sgS ys := by
  have e := rep_eq (repS s) hx hy h1 h2
  have e1 := repS_wv xs 0 hx
  have e2 := repS_wv ys 0 hy
  unfold sgS
  exact e1.symm.trans (e.trans e2)
end Go.Proofs.YtdkpalllfekiiaaGreat
