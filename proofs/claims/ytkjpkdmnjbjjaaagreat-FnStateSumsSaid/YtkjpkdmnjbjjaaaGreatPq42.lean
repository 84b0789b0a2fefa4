/-
  Walks and plain laws of this seat, some texts in one.
  No condition but bounds on lengths.
-/
import Derived.Test.YtkjpkdmnjbjjaaaGreatPq41
import Derived.Test.YtkjpkdmnjbjjaaaGreatPq2
import Derived.Test.YtkjpkdmnjbjjaaaGreatPq1
import Derived.Test.YtkjpkdmnjbjjaaaGreatPq32
import Derived.Test.YtkjpkdmnjbjjaaaGreatPq30
import Derived.Test.YtkjpkdmnjbjjaaaGreatPq7
import Derived.Test.YtkjpkdmnjbjjaaaGreatPq18
import Derived.Test.YtkjpkdmnjbjjaaaGreatPq25
import Derived.Test.YtkjpkdmnjbjjaaaGreatPq35
import Derived.Test.YtkjpkdmnjbjjaaaGreatPq5
import Derived.Test.YtkjpkdmnjbjjaaaGreatPq20
import Derived.Test.YtkjpkdmnjbjjaaaGreatPq6
import Derived.Test.YtkjpkdmnjbjjaaaGreatPq3
import Derived.Test.YtkjpkdmnjbjjaaaGreatPq34
import Derived.Deep.RegionHeld3
import Derived.Test.YtkjpkdmnjbjjaaaGreatPq31
import Derived.Test.YtkjpkdmnjbjjaaaGreatPq29
import Derived.Test.YtkjpkdmnjbjjaaaGreatPq38
namespace Go.Proofs.YtkjpkdmnjbjjaaaGreat
set_option linter.unusedVariables false
set_option linter.unusedSimpArgs false
set_option maxRecDepth 100000
/-! ### the permutation as a function -/
def kpl (x : Int) : Nat := (plc x).toNat
def LetS (s : Nat) (xs : List Int) : Prop := ∀ x ∈ xs, kpl x + 1 < s
theorem LetS.of {s : Nat} {xs : List Int} (h : isBr s xs = true) : LetS s xs := fun x hx => by
  have := plc_let ((isBr_let h).2.2 x hx)
  unfold kpl; omega
theorem LetS.plc {s : Nat} {xs : List Int} (h : isBr s xs = true) : ∀ x ∈ xs, 0 ≤ plc x ∧ plc x + 1 < s := fun x hx => plc_let ((isBr_let h).2.2 x hx)
/-! ### the finite checks, used -/
end Go.Proofs.YtkjpkdmnjbjjaaaGreat

namespace Go.Proofs.YtkjpkdmnjbjjaaaGreat
set_option linter.unusedVariables false
set_option linter.unusedSimpArgs false
set_option maxRecDepth 100000
open Go.RowKit
/-! ### sums -/
/-! ### the sum of all entries, those on the diagonal twice -/
theorem LetS.take {s : Nat} {xs : List Int} (h : LetS s xs) (k : Nat) : LetS s (xs.take k) := fun x hx => h x (List.mem_of_mem_take hx)
/-! ### letters between two components are an even number -/
/-! ### the mirror -/
end Go.Proofs.YtkjpkdmnjbjjaaaGreat

namespace Go.Proofs.YtkjpkdmnjbjjaaaGreat
set_option maxRecDepth 100000
set_option linter.unusedVariables false
set_option linter.unusedSimpArgs false
theorem plN_plc (x : Int) : (plc x).toNat = plN x := by unfold plc plN; split <;> rfl
theorem list_ext0' {l l' : List Int} (hl : l.length = l'.length) (h : ∀ i, i < l.length → l.getD i 0 = l'.getD i 0) : l = l' := by
  refine List.ext_getElem hl fun i h1 h2 => ?_
  have := h i h1
  simpa [List.getD_eq_getElem?_getD, h1, h2] using this
/-! ### the action -/
def nv (l : List Int) (i : Nat) : Nat := (l.getD i 0).toNat
theorem doF_getR {f g : List (List Int)} {i j : Nat} {l : List Int} (hi : i + 1 < l.length) (hj : j < l.length) : (doF f g i l).getD j 0 = if j = i then ((tv f (nv l i) (nv l (i + 1)) : Nat) : Int) else if j = i + 1 then ((tv g (nv l i) (nv l (i + 1)) : Nat) : Int) else l.getD j 0 := by
  unfold doF nv
  rw [getD_set' _ _ _ _ _ (by rw [List.length_set]; exact hj), getD_set' _ _ _ _ _ hj]
  by_cases e : j = i + 1
  · rw [if_pos e, if_neg (by omega), if_pos e]
  · rw [if_neg e]
    by_cases e2 : j = i
    · rw [if_pos e2, if_pos e2]
    · rw [if_neg e2, if_neg e2, if_neg e]
theorem doF_nv {f g : List (List Int)} {i j : Nat} {l : List Int} (hi : i + 1 < l.length) (hj : j < l.length) : nv (doF f g i l) j = if j = i then tv f (nv l i) (nv l (i + 1)) else if j = i + 1 then tv g (nv l i) (nv l (i + 1)) else nv l j := by
  have := doF_getR (f := f) (g := g) hi hj
  unfold nv at *
  rw [this]
  split
  · simp
  · split
    · simp
    · rfl
def YbE (n : Nat) (f g : List (List Int)) : Prop := ∀ x y z, x < n → y < n → z < n → tv f (tv f x y) (tv f (tv g x y) z) = tv f x (tv f y z) ∧ tv g (tv f x y) (tv f (tv g x y) z) = tv f (tv g x (tv f y z)) (tv g y z) ∧ tv g (tv g x y) z = tv g (tv g x (tv f y z)) (tv g y z)
theorem doF_near {n : Nat} {f g : List (List Int)} (hE : YbE n f g) {k : Nat} {l : List Int} (hk : k + 2 < l.length) (hl : Less n l) : doF f g k (doF f g (k + 1) (doF f g k l)) = doF f g (k + 1) (doF f g k (doF f g (k + 1) l)) := by
  have hnv : ∀ i, i < l.length → nv l i < n := fun i hi => by obtain ⟨x, hx, e⟩ := hl i hi; unfold nv; rw [e]; simpa using hx
  obtain ⟨y1, y2, y3⟩ := hE _ _ _ (hnv k (by omega)) (hnv (k + 1) (by omega)) (hnv (k + 1 + 1) (by omega))
  have L1 : (doF f g k l).length = l.length := doF_len _ _ _ _
  have L2 : (doF f g (k + 1) (doF f g k l)).length = l.length := by rw [doF_len, L1]
  have M1 : (doF f g (k + 1) l).length = l.length := doF_len _ _ _ _
  have M2 : (doF f g k (doF f g (k + 1) l)).length = l.length := by rw [doF_len, M1]
  -- one way
  have a0 : nv (doF f g k l) k = tv f (nv l k) (nv l (k + 1)) := by rw [doF_nv (by omega) (by omega), if_pos rfl]
  have a1 : nv (doF f g k l) (k + 1) = tv g (nv l k) (nv l (k + 1)) := by rw [doF_nv (by omega) (by omega), if_neg (by omega), if_pos rfl]
  have a2 : nv (doF f g k l) (k + 1 + 1) = nv l (k + 1 + 1) := by rw [doF_nv (by omega) (by omega), if_neg (by omega), if_neg (by omega)]
  have b0 : nv (doF f g (k + 1) (doF f g k l)) k = tv f (nv l k) (nv l (k + 1)) := by rw [doF_nv (by omega) (by omega), if_neg (by omega), if_neg (by omega), a0]
  have b1 : nv (doF f g (k + 1) (doF f g k l)) (k + 1) = tv f (tv g (nv l k) (nv l (k + 1))) (nv l (k + 1 + 1)) := by rw [doF_nv (by omega) (by omega), if_pos rfl, a1, a2]
  -- the other one
  have c0 : nv (doF f g (k + 1) l) k = nv l k := by rw [doF_nv (by omega) (by omega), if_neg (by omega), if_neg (by omega)]
  have c1 : nv (doF f g (k + 1) l) (k + 1) = tv f (nv l (k + 1)) (nv l (k + 1 + 1)) := by rw [doF_nv (by omega) (by omega), if_pos rfl]
  have c2 : nv (doF f g (k + 1) l) (k + 1 + 1) = tv g (nv l (k + 1)) (nv l (k + 1 + 1)) := by rw [doF_nv (by omega) (by omega), if_neg (by omega), if_pos rfl]
  have d1 : nv (doF f g k (doF f g (k + 1) l)) (k + 1) = tv g (nv l k) (tv f (nv l (k + 1)) (nv l (k + 1 + 1))) := by rw [doF_nv (by omega) (by omega), if_neg (by omega), if_pos rfl, c0, c1]
  have d2 : nv (doF f g k (doF f g (k + 1) l)) (k + 1 + 1) = tv g (nv l (k + 1)) (nv l (k + 1 + 1)) := by rw [doF_nv (by omega) (by omega), if_neg (by omega), if_neg (by omega), c2]
  refine list_ext0' (by simp only [doF_len]) fun j hj => ?_
  simp only [doF_len] at hj
  rw [doF_getR (l := doF f g (k + 1) (doF f g k l)) (by omega) (by omega), doF_getR (l := doF f g k (doF f g (k + 1) l)) (by omega) (by omega), b0, b1, d1, d2]
  by_cases e0 : j = k
  · rw [if_pos e0, if_neg (by omega), if_neg (by omega), doF_getR (by omega) (by omega), if_pos e0, c0, c1, y1]
  · rw [if_neg e0]
    by_cases e1 : j = k + 1
    · rw [if_pos e1, if_pos e1, y2]
    · rw [if_neg e1, if_neg e1]
      by_cases e2 : j = k + 1 + 1
      · rw [if_pos e2, doF_getR (by omega) (by omega), if_neg (by omega), if_pos e2, a1, a2, y3]
      · rw [if_neg e2, doF_getR (by omega) (by omega), if_neg e1, if_neg e2, doF_getR (by omega) (by omega), if_neg e0, if_neg e1, doF_getR (by omega) (by omega), if_neg e0, if_neg e1, doF_getR (by omega) (by omega), if_neg e1, if_neg e2]
theorem plN_one (k : Nat) : plN ((k : Int) + 1) = k := plN_suc k
theorem stepL_one {n : Nat} {f g : List (List Int)} (k : Nat) (l : List Int) : stepL n f g ((k : Int) + 1) l = doF f g k l := by
  unfold stepL; rw [if_pos (by omega), plN_plc, plN_one]
/-! ### strands -/
/-! ### sums -/
end Go.Proofs.YtkjpkdmnjbjjaaaGreat

namespace Go.Proofs.YtkjpkdmnjbjjaaaGreat
set_option linter.unusedVariables false
set_option linter.unusedSimpArgs false
theorem wtS_cons (n : Nat) (f g M : List (List Int)) (m x : Int) (xs l : List Int) : wtS n f g M m (x :: xs) l = wtT M m x l (stepL n f g x l) + wtS n f g M m xs (stepL n f g x l) := rfl
theorem wtS_one (n : Nat) (f g M : List (List Int)) (m x : Int) (l : List Int) : wtS n f g M m [x] l = wtT M m x l (stepL n f g x l) := by simp [wtS]
theorem wtT_back (M : List (List Int)) (m : Int) {x : Int} (hx : x ≠ 0) (l r : List Int) : wtT M m x l r + wtT M m (-x) r l = m := by
  unfold wtT
  rw [plc_neg hx]
  by_cases q : 0 < x
  · rw [if_pos q, if_neg (by omega)]; omega
  · rw [if_neg q, if_pos (by omega)]; omega
theorem act_ybe {n : Nat} {f g : List (List Int)} (h : YbE n f g) {l : List Int} (h3 : 3 ≤ l.length) (hl : Less n l) : actL n f g [1, 2, 1] l = actL n f g [2, 1, 2] l := by
  have e1 : ∀ l, stepL n f g 1 l = doF f g 0 l := fun l => stepL_one 0 l
  have e2 : ∀ l, stepL n f g 2 l = doF f g 1 l := fun l => stepL_one 1 l
  show stepL n f g 1 (stepL n f g 2 (stepL n f g 1 l)) = stepL n f g 2 (stepL n f g 1 (stepL n f g 2 l))
  rw [e1, e2, e1, e2, e1, e2]
  exact doF_near h (k := 0) (by omega) hl
theorem wtF_cg {n : Nat} {f g M : List (List Int)} {m : Int} (hm : 0 < m) {xs ys l l' : List Int} (h : cg m (wtS n f g M m xs l) (wtS n f g M m ys l')) : wtF n f g M m xs l = wtF n f g M m ys l' := by
  unfold wtF
  have hmod : ∀ x : Int, 0 ≤ x % m ∧ x % m < m := fun x => ⟨Int.emod_nonneg _ (by omega), Int.emod_lt_of_pos _ hm⟩
  exact cg.eq ((cg.mod m _).trans (h.trans (cg.mod m _).symm)) (hmod _).1 (hmod _).2 (hmod _).1 (hmod _).2
end Go.Proofs.YtkjpkdmnjbjjaaaGreat

namespace Go.Proofs.YtkjpkdmnjbjjaaaGreat
set_option maxRecDepth 100000
set_option linter.unusedVariables false
set_option linter.unusedSimpArgs false
/-! ### how often each number comes does not depend on the order -/
theorem cnt_swap (C : List Int) (a b : Nat) : (C.set a (C.getD a 0 + 1)).set b ((C.set a (C.getD a 0 + 1)).getD b 0 + 1) = (C.set b (C.getD b 0 + 1)).set a ((C.set b (C.getD b 0 + 1)).getD a 0 + 1) := by
  by_cases e : a = b
  · subst e; rfl
  · have ga : (C.set b (C.getD b 0 + 1)).getD a 0 = C.getD a 0 := by rw [List.getD_eq_getElem?_getD, List.getElem?_set_ne (fun q => e q.symm), ← List.getD_eq_getElem?_getD]
    have gb : (C.set a (C.getD a 0 + 1)).getD b 0 = C.getD b 0 := by rw [List.getD_eq_getElem?_getD, List.getElem?_set_ne e, ← List.getD_eq_getElem?_getD]
    rw [ga, gb]
    apply List.ext_getElem
    · simp
    · intro i h1 h2
      simp only [List.getElem_set]
      by_cases e1 : a = i <;> by_cases e2 : b = i
      · omega
      · simp [e1, e2]
      · simp [e1, e2]
      · simp [e1, e2]
theorem cntL_perm {m : Nat} {L L' : List Int} (h : L.Perm L') : cntL m L = cntL m L' := by
  unfold cntL
  exact h.foldl_eq' (fun x _ y _ z => cnt_swap z x.toNat y.toNat) _
theorem bij_perm {A B : List (List Int)} (hA : A.Nodup) (hB : B.Nodup) (F : List Int → List Int) (inj : ∀ x ∈ A, ∀ y ∈ A, F x = F y → x = y) (h : ∀ b, b ∈ B ↔ ∃ a ∈ A, F a = b) : (A.map F).Perm B := by
  have hnd : (A.map F).Nodup := by
    rw [List.nodup_iff_pairwise_ne, List.pairwise_map]
    refine List.Pairwise.imp_of_mem ?_ (List.nodup_iff_pairwise_ne.1 hA)
    intro a b ha hb hab e
    exact hab (inj a ha b hb e)
  exact (List.perm_ext_iff_of_nodup hnd hB).2 fun a => by rw [List.mem_map, h]
theorem set_sum {C : List Int} {a : Nat} (h : a < C.length) (z : Int) : (C.set a z).sum = C.sum - C.getD a 0 + z := by
  induction C generalizing a with
  | nil => simp at h
  | cons c r ih =>
    cases a with
    | zero => simp; omega
    | succ a =>
      have := ih (a := a) (by simpa using h)
      simp only [List.set_cons_succ, List.sum_cons, List.getD_cons_succ, this]
      omega
theorem cntL_sum {m : Nat} {L : List Int} (h : ∀ x ∈ L, 0 ≤ x ∧ x < (m : Int)) : (cntL m L).sum = (L.length : Int) := by
  have : ∀ (L : List Int) (C : List Int), C.length = m → (∀ x ∈ L, 0 ≤ x ∧ x < (m : Int)) → (L.foldl (fun C x => C.set x.toNat (C.getD x.toNat 0 + 1)) C).sum = C.sum + (L.length : Int) := by
    intro L
    induction L with
    | nil => intro C _ _; simp
    | cons x r ih =>
      intro C hC hx
      have h0 := hx x List.mem_cons_self
      rw [List.foldl_cons, ih _ (by rw [List.length_set]; exact hC) (fun y hy => hx y (List.mem_cons_of_mem _ hy)), set_sum (by omega), List.length_cons]
      omega
  unfold cntL
  rw [this L _ (by simp) h]
  have : (List.replicate m (0 : Int)).sum = 0 := by
    induction m with
    | zero => rfl
    | succ m ih => rw [List.replicate_succ, List.sum_cons]; simp
  omega
section
variable {n : Nat} {f g M : List (List Int)} {m : Int}
theorem conj_wts (hm : 0 < m) (hn : 1 ≤ n) (hf : Sq n f) (hg : Sq n g) (hc : collOk n f g = true) {s : Nat} {xs : List Int} {x : Int} (hx : x ≠ 0) (hp : (plc x).toNat + 1 < s) (hxs : ∀ y ∈ xs, (plc y).toNat + 1 < s) :
    ((colsL n s f g ([x] ++ xs ++ [-x])).map (wtF n f g M m ([x] ++ xs ++ [-x]))).Perm ((colsL n s f g xs).map (wtF n f g M m xs)) := by
  have hw : ∀ l, actL n f g ([x] ++ xs ++ [-x]) l = stepL n f g (-x) (actL n f g xs (stepL n f g x l)) := fun l => by rw [actL_app, actL_app]; rfl
  have hpn : (plc (-x)).toNat + 1 < s := by rw [plc_neg hx]; exact hp
  have hto : ∀ a, FixT n s f g ([x] ++ xs ++ [-x]) a → FixT n s f g xs (stepL n f g x a) := by
    rintro a ⟨h1, h2, h3⟩
    have hs := h2.step hn hf hg hc x (by rw [h1]; exact hp)
    have hl : (stepL n f g x a).length = s := by rw [stepL_len]; exact h1
    have hA := hs.act hn hf hg hc xs (fun y hy => by rw [hl]; exact hxs y hy)
    have hAl : (actL n f g xs (stepL n f g x a)).length = s := by rw [actL_len]; exact hl
    refine ⟨hl, hs, ?_⟩
    rw [hw] at h3
    have := step_forth hn hf hg hc hx (l := actL n f g xs (stepL n f g x a)) (by rw [hAl]; exact hp) hA
    rw [h3] at this
    exact this.symm
  have hP := bij_perm (A := colsL n s f g ([x] ++ xs ++ [-x])) (B := colsL n s f g xs) cols_nd cols_nd (stepL n f g x)
    (by
      intro a ha b hb e
      rw [cols_mem hn] at ha hb
      rw [← step_back hn hf hg hc hx (by rw [ha.1]; exact hp) ha.2.1, e, step_back hn hf hg hc hx (by rw [hb.1]; exact hp) hb.2.1])
    (by
      intro b
      rw [cols_mem hn]
      constructor
      · rintro ⟨h1, h2, h3⟩
        have e := step_forth hn hf hg hc hx (l := b) (by rw [h1]; exact hp) h2
        refine ⟨stepL n f g (-x) b, (cols_mem hn).2 ⟨by rw [stepL_len]; exact h1, h2.step hn hf hg hc (-x) (by rw [h1]; exact hpn), ?_⟩, e⟩
        rw [hw, e, h3]
      · rintro ⟨a, ha, rfl⟩
        exact hto a ((cols_mem hn).1 ha))
  have hmap := hP.map (wtF n f g M m xs)
  rw [List.map_map] at hmap
  refine List.Perm.trans (List.Perm.of_eq (List.map_congr_left fun a ha => ?_)) hmap
  rw [cols_mem hn] at ha
  obtain ⟨h1, h2, h3⟩ := ha
  have hfx := (hto a ⟨h1, h2, h3⟩).2.2
  show _ = wtF n f g M m xs (stepL n f g x a)
  refine wtF_cg hm ?_
  rw [wtS_append, wtS_append, wtS_one, wtS_one, actL_app]
  have e1 : actL n f g [x] a = stepL n f g x a := rfl
  rw [e1, hfx, step_back hn hf hg hc hx (by rw [h1]; exact hp) h2]
  have := wtT_back M m hx a (stepL n f g x a)
  refine ⟨1, ?_⟩
  omega
/-! ### bounds -/
def gsm (gs : List Int) (l : List Int) : Int := (l.map fun y => gs.getD y.toNat 0).sum
theorem gsm_set (gs : List Int) {l : List Int} {a : Nat} (h : a < l.length) (z : Int) : gsm gs (l.set a z) = gsm gs l - gs.getD (l.getD a 0).toNat 0 + gs.getD z.toNat 0 := by
  unfold gsm
  rw [List.map_set, set_sum (by simpa using h)]
  congr 2
  simp [List.getD_eq_getElem?_getD, List.getElem?_map, List.getElem?_eq_getElem h]
theorem gsm_do (gs : List Int) {l : List Int} {k : Nat} (h : k + 1 < l.length) : gsm gs (doF f g k l) = gsm gs l + (gs.getD (tv f (l.getD k 0).toNat (l.getD (k + 1) 0).toNat) 0 + gs.getD (tv g (l.getD k 0).toNat (l.getD (k + 1) 0).toNat) 0 - gs.getD (l.getD k 0).toNat 0 - gs.getD (l.getD (k + 1) 0).toNat 0) := by
  unfold doF
  have e : (l.set k ((tv f (l.getD k 0).toNat (l.getD (k + 1) 0).toNat : Nat) : Int)).getD (k + 1) 0 = l.getD (k + 1) 0 := by
    simp [List.getD_eq_getElem?_getD, List.getElem?_set]
  rw [gsm_set gs (by rw [List.length_set]; exact h), gsm_set gs (by omega), e]
  simp only [Int.toNat_natCast]
  omega
theorem bnd_tv (gs : List Int) (hm : 0 < m) {x y : Nat} (hx : x < n) (hy : y < n) : ((tv (bndL n m f g gs) x y : Nat) : Int) = bndE m f g gs x y := by
  unfold tv bndL
  rw [tv_tabF n _ hx hy]
  have : 0 ≤ bndE m f g gs x y := Int.emod_nonneg _ (by omega)
  omega
theorem bnd_cg (gs : List Int) (x y : Nat) : cg m (bndE m f g gs x y) (gs.getD (tv f x y) 0 + gs.getD (tv g x y) 0 - gs.getD x 0 - gs.getD y 0) := by
  unfold bndE
  exact (cg.mod m _).trans ⟨2, by omega⟩
theorem bnd_T (gs : List Int) (hm : 0 < m) (hn : 1 ≤ n) (hf : Sq n f) (hg : Sq n g) (hc : collOk n f g = true) {x : Int} {l : List Int} (hx : x ≠ 0) (hi : (plc x).toNat + 1 < l.length) (h : Less n l) :
    cg m (wtT (bndL n m f g gs) m x l (stepL n f g x l)) (gsm gs (stepL n f g x l) - gsm gs l) := by
  have key : ∀ l : List Int, (plc x).toNat + 1 < l.length → Less n l → cg m ((tv (bndL n m f g gs) (l.getD (plc x).toNat 0).toNat (l.getD ((plc x).toNat + 1) 0).toNat : Nat) : Int) (gsm gs (doF f g (plc x).toNat l) - gsm gs l) := fun l hi h => by
    obtain ⟨a, ha, ea⟩ := h _ (show (plc x).toNat < l.length by omega)
    obtain ⟨b, hb, eb⟩ := h _ hi
    rw [gsm_do gs hi, ea, eb, Int.toNat_natCast, Int.toNat_natCast, bnd_tv gs hm ha hb]
    refine (bnd_cg gs a b).trans (cg.of ?_)
    omega
  by_cases hp : 0 < x
  · have := key l hi h
    unfold wtT stepL
    rw [if_pos hp, if_pos hp]
    exact this
  · have hb := step_back hn hf hg hc hx hi h
    have hr : Less n (stepL n f g x l) := h.step hn hf hg hc x hi
    have hk := key (stepL n f g x l) (by rw [stepL_len]; exact hi) hr
    have e : doF f g (plc x).toNat (stepL n f g x l) = l := by
      have : stepL n f g (-x) (stepL n f g x l) = doF f g (plc (-x)).toNat (stepL n f g x l) := by
        conv => lhs; unfold stepL
        rw [if_pos (by omega)]
        rfl
      rw [plc_neg hx] at this
      rw [← this, hb]
    rw [e] at hk
    unfold wtT
    rw [if_neg hp]
    have h2 := (cg.refl m m).sub hk
    refine h2.trans ⟨1, ?_⟩
    omega
theorem bnd_S (gs : List Int) (hm : 0 < m) (hn : 1 ≤ n) (hf : Sq n f) (hg : Sq n g) (hc : collOk n f g = true) : ∀ (xs l : List Int), (∀ x ∈ xs, x ≠ 0 ∧ (plc x).toNat + 1 < l.length) → Less n l →
    cg m (wtS n f g (bndL n m f g gs) m xs l) (gsm gs (actL n f g xs l) - gsm gs l) := by
  intro xs
  induction xs with
  | nil => intro l _ _; exact cg.of (by simp [wtS, actL])
  | cons x xs ih =>
    intro l hx h
    have h0 := hx x List.mem_cons_self
    have ih := ih (stepL n f g x l) (fun y hy => by rw [stepL_len]; exact hx y (List.mem_cons_of_mem _ hy)) (h.step hn hf hg hc x h0.2)
    rw [wtS_cons]
    refine ((bnd_T gs hm hn hf hg hc h0.1 h0.2 h).add ih).trans (cg.of ?_)
    have e : actL n f g (x :: xs) l = actL n f g xs (stepL n f g x l) := rfl
    rw [e]; omega
/-! ### sums of matrices -/
theorem add_tv (B : List (List Int)) (hm : 0 < m) (hM : SqM n m.toNat M) (hB : SqM n m.toNat B) {x y : Nat} (hx : x < n) (hy : y < n) : cg m ((tv (tabF n (addE m M B)) x y : Nat) : Int) ((tv M x y : Nat) + (tv B x y : Nat) : Int) := by
  unfold tv
  rw [tv_tabF n _ hx hy]
  have h0 : 0 ≤ addE m M B x y := Int.emod_nonneg _ (by omega)
  have e1 := ((hM.2 x hx).2 y hy).2
  have e2 := ((hB.2 x hx).2 y hy).2
  refine cg.trans (cg.of (show _ = addE m M B x y by omega)) ?_
  unfold addE get2
  refine (cg.mod m _).trans (cg.of ?_)
  rw [e1, e2]; simp
theorem add_S (B : List (List Int)) (hm : 0 < m) (hn : 1 ≤ n) (hf : Sq n f) (hg : Sq n g) (hc : collOk n f g = true) (hM : SqM n m.toNat M) (hB : SqM n m.toNat B) : ∀ (xs l : List Int), (∀ x ∈ xs, (plc x).toNat + 1 < l.length) → Less n l →
    cg m (wtS n f g (tabF n (addE m M B)) m xs l) (wtS n f g M m xs l + wtS n f g B m xs l) := by
  intro xs
  induction xs with
  | nil => intro l _ _; exact cg.of (by simp [wtS])
  | cons x xs ih =>
    intro l hx h
    have h0 := hx x List.mem_cons_self
    have hr : Less n (stepL n f g x l) := h.step hn hf hg hc x h0
    have ih := ih (stepL n f g x l) (fun y hy => by rw [stepL_len]; exact hx y (List.mem_cons_of_mem _ hy)) hr
    have hT : cg m (wtT (tabF n (addE m M B)) m x l (stepL n f g x l)) (wtT M m x l (stepL n f g x l) + wtT B m x l (stepL n f g x l)) := by
      unfold wtT
      by_cases hp : 0 < x
      · simp only [if_pos hp]
        obtain ⟨a, ha, ea⟩ := h _ (show (plc x).toNat < l.length by omega)
        obtain ⟨b, hb, eb⟩ := h _ h0
        rw [ea, eb, Int.toNat_natCast, Int.toNat_natCast]
        exact add_tv B hm hM hB ha hb
      · simp only [if_neg hp]
        have hrl : (plc x).toNat + 1 < (stepL n f g x l).length := by rw [stepL_len]; exact h0
        obtain ⟨a, ha, ea⟩ := hr _ (show (plc x).toNat < (stepL n f g x l).length by omega)
        obtain ⟨b, hb, eb⟩ := hr _ hrl
        rw [ea, eb, Int.toNat_natCast, Int.toNat_natCast]
        have := (cg.refl m m).sub (add_tv B hm hM hB ha hb)
        refine this.trans ⟨-1, ?_⟩
        omega
    rw [wtS_cons, wtS_cons, wtS_cons]
    refine (hT.add ih).trans (cg.of ?_)
    omega
theorem sqm_bnd (gs : List Int) (hm : 0 < m) : SqM n m.toNat (bndL n m f g gs) := by
  refine ⟨tabF_len _ _, fun x hx => ⟨by unfold bndL; rw [tabF_get _ _ x hx]; simp, fun y hy => ?_⟩⟩
  have e := bnd_tv (f := f) (g := g) gs hm hx hy
  have e2 : ((bndL n m f g gs).getD x []).getD y 0 = bndE m f g gs x y := by unfold bndL; exact tv_tabF n _ hx hy
  have h0 : 0 ≤ bndE m f g gs x y ∧ bndE m f g gs x y < m := ⟨Int.emod_nonneg _ (by omega), Int.emod_lt_of_pos _ hm⟩
  exact ⟨by omega, by rw [e2]; omega⟩
theorem bnd_closed (gs : List Int) (hm : 0 < m) (hn : 1 ≤ n) (hf : Sq n f) (hg : Sq n g) (hc : collOk n f g = true) (hM : SqM n m.toNat M) {xs l : List Int} (hx : ∀ x ∈ xs, x ≠ 0 ∧ (plc x).toNat + 1 < l.length) (h : Less n l) (hl : actL n f g xs l = l) :
    wtF n f g (tabF n (addE m M (bndL n m f g gs))) m xs l = wtF n f g M m xs l := by
  have h1 := add_S (bndL n m f g gs) hm hn hf hg hc hM (sqm_bnd gs hm) xs l (fun x q => (hx x q).2) h
  have h2 := bnd_S gs hm hn hf hg hc xs l hx h
  rw [hl] at h2
  have h3 : cg m (wtS n f g (tabF n (addE m M (bndL n m f g gs))) m xs l) (wtS n f g M m xs l) := by
    refine (h1.trans ((cg.refl m _).add h2)).trans (cg.of ?_)
    omega
  unfold wtF
  obtain ⟨k, e⟩ := h3
  rw [e, Int.add_mul_emod_self_left]
theorem let3 : ∀ x ∈ [(1 : Int), 2, 1], x ≠ 0 ∧ (plc x).toNat + 1 < 3 := by decide
theorem let3' : ∀ x ∈ [(2 : Int), 1, 2], x ≠ 0 ∧ (plc x).toNat + 1 < 3 := by decide
theorem fltL_same {n : Nat} {P Q : List Int → Bool} (h : ∀ N, P (digL n 3 N) = Q (digL n 3 N)) : fltL n P = fltL n Q := by
  unfold fltL
  have : (fun N => P (digL n 3 N)) = fun N => Q (digL n 3 N) := funext h
  rw [this]
theorem add_flt (gs : List Int) (hm : 0 < m) (hn : 1 ≤ n) (hf : Sq n f) (hg : Sq n g) (hc : collOk n f g = true) (hy : YbE n f g) (hM : SqM n m.toNat M) : wtFlt n f g (tabF n (addE m M (bndL n m f g gs))) m = wtFlt n f g M m := by
  refine fltL_same fun N => ?_
  have hl := digL_len n 3 N
  have hle := digL_less n 3 N hn
  have h1 := bnd_S gs hm hn hf hg hc [1, 2, 1] (digL n 3 N) (by rw [hl]; exact let3) hle
  have h2 := bnd_S gs hm hn hf hg hc [2, 1, 2] (digL n 3 N) (by rw [hl]; exact let3') hle
  rw [act_ybe hy (by omega) hle] at h1
  have a1 := add_S (bndL n m f g gs) hm hn hf hg hc hM (sqm_bnd gs hm) [1, 2, 1] (digL n 3 N) (by rw [hl]; exact fun x q => (let3 x q).2) hle
  have a2 := add_S (bndL n m f g gs) hm hn hf hg hc hM (sqm_bnd gs hm) [2, 1, 2] (digL n 3 N) (by rw [hl]; exact fun x q => (let3' x q).2) hle
  have hmod : ∀ a b : Int, cg m a b → a % m = b % m := fun a b ⟨k, e⟩ => by rw [e, Int.add_mul_emod_self_left]
  have back : ∀ a b : Int, a % m = b % m → cg m a b := fun a b e => (cg.mod m a).symm.trans ((cg.of e).trans (cg.mod m b))
  unfold wtBad wtF
  congr 1
  rw [decide_eq_decide]
  constructor
  · intro e
    have q := (a1.symm.trans ((back _ _ e).trans a2))
    have q2 := q.sub (h1.trans h2.symm)
    refine hmod _ _ (cg.trans (cg.of ?_) (q2.trans (cg.of ?_))) <;> omega
  · intro e
    exact hmod _ _ (a1.trans (((back _ _ e).add (h1.trans h2.symm)).trans a2.symm))
end
end Go.Proofs.YtkjpkdmnjbjjaaaGreat

namespace Go.Proofs.YtkjpkdmnjbjjaaaGreat
set_option maxRecDepth 100000
set_option linter.unusedVariables false
set_option linter.unusedSimpArgs false
/-! ### a braid and its inverse -/
end Go.Proofs.YtkjpkdmnjbjjaaaGreat

namespace Go.Proofs.YtkjpkdmnjbjjaaaGreat
set_option maxRecDepth 100000
set_option linter.unusedVariables false
set_option linter.unusedSimpArgs false
theorem ybe_of {f g : List (List Int)} (h : isSol f g = true) : YbE f.length f g := fun x y z hx hy hz => by
  unfold isSol at h
  rw [Bool.and_eq_true, Bool.and_eq_true] at h
  exact eqOk_at h.2.2 hx hy hz
theorem ss_facts (f g : List (List Int)) (m : Int) (M : List (List Int)) (s : Int) (xs : List Int) : (∃ k, k ≠ 0 ∧ (cwF f g m M s xs).2 = k ∧ stF f g m M s xs = ([], k)) ∨
    ∃ N : Nat, s = N ∧ isSol f g = true ∧ isBr N xs = true ∧ isMx f.length m M = true ∧ wtFlt f.length f g M m = [] ∧ f.length ^ N ≤ 5000 ∧ cwF f g m M N xs = ((colsL f.length N f g xs).map (wtF f.length f g M m xs), 0) ∧ stF f g m M N xs = (cntL m.toNat ((colsL f.length N f g xs).map (wtF f.length f g M m xs)), 0) := by
  by_cases h : (cwF f g m M s xs).2 = 0
  · obtain ⟨h1, h2, h3, h4, h5⟩ := cwF_code h
    have hs := (isBr_let h2).1
    obtain ⟨N, rfl⟩ : ∃ N : Nat, s = N := ⟨s.toNat, by omega⟩
    rw [Int.toNat_natCast] at h5
    have e : cwF f g m M N xs = ((colsL f.length N f g xs).map (wtF f.length f g M m xs), 0) := by
      have := cwF_5 h1 h2 h3 h4 (by rw [Int.toNat_natCast]; exact h5)
      rw [Int.toNat_natCast] at this; exact this
    refine .inr ⟨N, rfl, h1, h2, h3, h4, h5, e, ?_⟩
    unfold stF
    rw [if_pos h, e]
  · refine .inl ⟨_, h, rfl, ?_⟩
    unfold stF
    rw [if_neg h]
section
variable {f g M : List (List Int)} {m : Int} {N : Nat} {xs : List Int}
theorem ss_let (h2 : isBr N xs = true) {l : List Int} (hl : l.length = N) : ∀ x ∈ xs, x ≠ 0 ∧ (plc x).toNat + 1 < l.length := fun x hx => by
  have := (isBr_let h2).2.2 x hx
  refine ⟨this.1, ?_⟩
  rw [hl]; unfold plc; split <;> omega
theorem ss_nums (h3 : isMx f.length m M = true) : (cntL m.toNat ((colsL f.length N f g xs).map (wtF f.length f g M m xs))).sum = ((colsL f.length N f g xs).length : Int) ∧ (cntL m.toNat ((colsL f.length N f g xs).map (wtF f.length f g M m xs))).length = m.toNat ∧
    ∀ x ∈ (colsL f.length N f g xs).map (wtF f.length f g M m xs), 0 ≤ x ∧ x < m := by
  have hm := (isMx_sq h3).1
  have hb : ∀ x ∈ (colsL f.length N f g xs).map (wtF f.length f g M m xs), 0 ≤ x ∧ x < m := fun x hx => by
    obtain ⟨l, _, rfl⟩ := List.mem_map.1 hx
    exact wtF_bd hm.1
  refine ⟨?_, cntL_len _ _, hb⟩
  rw [cntL_sum (fun x hx => by have := hb x hx; omega), List.length_map]
theorem ss_bound (h1 : isSol f g = true) (h2 : isBr N xs = true) (h3 : isMx f.length m M = true) (h4 : wtFlt f.length f g M m = []) (h5 : f.length ^ N ≤ 5000) {gs : List Int} (hg : rowOk f.length m gs = true) :
    bouF f g m gs = (bndL f.length m f g gs, 0) ∧ addMF m M (bndL f.length m f g gs) = (tabF f.length (addE m M (bndL f.length m f g gs)), 0) ∧ stF f g m (tabF f.length (addE m M (bndL f.length m f g gs))) N xs = stF f g m M N xs := by
  obtain ⟨n1, n12, sf, sg⟩ := isSol_sq h1
  have hc := isSol_coll h1
  obtain ⟨hm, hsq⟩ := isMx_sq h3
  have hr : rngB 1 12 m = true := by unfold rngB; simp; omega
  have hbm : isMx f.length m (bndL f.length m f g gs) = true := bnd_mx hm f g gs
  have ham : isMx f.length m (tabF f.length (addE m M (bndL f.length m f g gs))) = true := add_mx hm M _
  have hfl := (add_flt gs (by omega) n1 sf sg hc (ybe_of h1) hsq).trans h4
  refine ⟨bouF_ok h1 hr hg, ?_, ?_⟩
  · unfold addMF
    have hml : M.length = f.length := hsq.1
    rw [hml, h3, hbm]
    have : rngB 1 12 (f.length : Int) = true := by unfold rngB; simp; omega
    rw [this]; rfl
  · have e1 : ∀ M', isMx f.length m M' = true → wtFlt f.length f g M' m = [] → stF f g m M' N xs = (cntL m.toNat ((colsL f.length N f g xs).map (wtF f.length f g M' m xs)), 0) := fun M' q3 q4 => by
      have := cwF_5 (s := N) h1 h2 q3 q4 (by rw [Int.toNat_natCast]; exact h5)
      rw [Int.toNat_natCast] at this
      unfold stF; rw [this]; rfl
    rw [e1 _ ham hfl, e1 _ h3 h4]
    congr 2
    apply List.map_congr_left
    intro l hl
    obtain ⟨l1, l2, l3⟩ := (cols_mem n1).1 hl
    exact bnd_closed gs (by omega) n1 sf sg hc hsq (ss_let h2 l1) l2 l3
theorem ss_conj (h1 : isSol f g = true) (h2 : isBr N xs = true) (h3 : isMx f.length m M = true) (h4 : wtFlt f.length f g M m = []) (h5 : f.length ^ N ≤ 5000) {x : Int} (hx : isLet N x = true) (hl : xs.length ≤ 28) (h6 : isBr N ([x] ++ xs ++ [-x]) = true) :
    hsF f g m M N xs N ([x] ++ xs ++ [-x]) = (true, 0) := by
  obtain ⟨n1, n12, sf, sg⟩ := isSol_sq h1
  have hc := isSol_coll h1
  obtain ⟨hm, hsq⟩ := isMx_sq h3
  have e1 : ∀ ys, isBr N ys = true → stF f g m M N ys = (cntL m.toNat ((colsL f.length N f g ys).map (wtF f.length f g M m ys)), 0) := fun ys q2 => by
    have := cwF_5 (s := N) h1 q2 h3 h4 (by rw [Int.toNat_natCast]; exact h5)
    rw [Int.toNat_natCast] at this
    unfold stF; rw [this]; rfl
  have hxx := (isBr_let h6).2.2 x (by simp)
  have hp : (plc x).toNat + 1 < N := by unfold plc; split <;> omega
  have hP := conj_wts (M := M) (m := m) (by omega) n1 sf sg hc (s := N) (xs := xs) hxx.1 hp (fun y hy => by have := (isBr_let h2).2.2 y hy; unfold plc; split <;> omega)
  rw [hsF_5 h1 h2 h6 (by rw [e1 _ h2]) (by rw [e1 _ h6]), e1 _ h2, e1 _ h6, cntL_perm hP]
  simp
end
end Go.Proofs.YtkjpkdmnjbjjaaaGreat
