/-
  Walks and plain laws of this seat, some texts in one.
  No condition but bounds on lengths.
-/
import Derived.Test.YtpdgpgbgakinlaaGreatPa44
import Derived.Test.YtpdgpgbgakinlaaGreatPa2
import Derived.Test.YtpdgpgbgakinlaaGreatPa1
import Derived.Test.YtpdgpgbgakinlaaGreatPa34
import Derived.Test.YtpdgpgbgakinlaaGreatPa32
import Derived.Test.YtpdgpgbgakinlaaGreatPa8
import Derived.Test.YtpdgpgbgakinlaaGreatPa20
import Derived.Test.YtpdgpgbgakinlaaGreatPa28
import Derived.Test.YtpdgpgbgakinlaaGreatPa27
import Derived.Test.YtpdgpgbgakinlaaGreatPa36
import Derived.Test.YtpdgpgbgakinlaaGreatPa37
import Derived.Test.YtpdgpgbgakinlaaGreatPa38
import Derived.Test.YtpdgpgbgakinlaaGreatPa31
import Derived.Test.YtpdgpgbgakinlaaGreatPa5
import Derived.Test.YtpdgpgbgakinlaaGreatPa3
import Derived.Test.YtpdgpgbgakinlaaGreatPa6
import Derived.Lib.AppendZeros
import Derived.Deep.RegionHeld3
import Derived.Test.YtpdgpgbgakinlaaGreatPa33
import Derived.Test.YtpdgpgbgakinlaaGreatPa9
import Derived.Test.YtpdgpgbgakinlaaGreatPa41
namespace Go.Proofs.YtpdgpgbgakinlaaGreat
set_option linter.unusedVariables false
set_option linter.unusedSimpArgs false
set_option maxRecDepth 100000
/-! ### the permutation as a function -/
def kpl (x : Int) : Nat := (plc x).toNat
def LetS (s : Nat) (xs : List Int) : Prop := ∀ x ∈ xs, kpl x + 1 < s
theorem LetS.of {s : Nat} {xs : List Int} (h : isBr s xs = true) : LetS s xs := fun x hx => by
  have := plc_let ((isBr_let h).2.2 x hx)
  unfold kpl; omega
theorem LetS.plc {s : Nat} {xs : List Int} (h : isBr s xs = true) : ∀ x ∈ xs, 0 ≤ plc x ∧ plc x + 1 < s := fun x hx => plc_let ((isBr_let h).2.2 x hx)
/-! ### the finite checks, used -/
end Go.Proofs.YtpdgpgbgakinlaaGreat

namespace Go.Proofs.YtpdgpgbgakinlaaGreat
set_option linter.unusedVariables false
set_option linter.unusedSimpArgs false
set_option maxRecDepth 100000
open Go.RowKit
/-! ### sums -/
/-! ### the sum of all entries, those on the diagonal twice -/
theorem LetS.take {s : Nat} {xs : List Int} (h : LetS s xs) (k : Nat) : LetS s (xs.take k) := fun x hx => h x (List.mem_of_mem_take hx)
/-! ### letters between two components are an even number -/
/-! ### the mirror -/
end Go.Proofs.YtpdgpgbgakinlaaGreat

namespace Go.Proofs.YtpdgpgbgakinlaaGreat
set_option maxRecDepth 100000
set_option linter.unusedVariables false
set_option linter.unusedSimpArgs false
theorem plN_plc (x : Int) : (plc x).toNat = plN x := by unfold plc plN; split <;> rfl
theorem list_ext0' {l l' : List Int} (hl : l.length = l'.length) (h : ∀ i, i < l.length → l.getD i 0 = l'.getD i 0) : l = l' := by
  refine List.ext_getElem hl fun i h1 h2 => ?_
  have := h i h1
  simpa [List.getD_eq_getElem?_getD, h1, h2] using this
/-! ### the action -/
def nv (l : List Int) (i : Nat) : Nat := (l.getD i 0).toNat
theorem doF_getR {f g : List (List Int)} {i j : Nat} {l : List Int} (hi : i + 1 < l.length) (hj : j < l.length) : (doF f g i l).getD j 0 = if j = i then ((tv f (nv l i) (nv l (i + 1)) : Nat) : Int) else if j = i + 1 then ((tv g (nv l i) (nv l (i + 1)) : Nat) : Int) else l.getD j 0 := by
  unfold doF nv
  rw [getD_set' _ _ _ _ _ (by rw [List.length_set]; exact hj), getD_set' _ _ _ _ _ hj]
  by_cases e : j = i + 1
  · rw [if_pos e, if_neg (by omega), if_pos e]
  · rw [if_neg e]
    by_cases e2 : j = i
    · rw [if_pos e2, if_pos e2]
    · rw [if_neg e2, if_neg e2, if_neg e]
theorem doF_nv {f g : List (List Int)} {i j : Nat} {l : List Int} (hi : i + 1 < l.length) (hj : j < l.length) : nv (doF f g i l) j = if j = i then tv f (nv l i) (nv l (i + 1)) else if j = i + 1 then tv g (nv l i) (nv l (i + 1)) else nv l j := by
  have := doF_getR (f := f) (g := g) hi hj
  unfold nv at *
  rw [this]
  split
  · simp
  · split
    · simp
    · rfl
def YbE (n : Nat) (f g : List (List Int)) : Prop := ∀ x y z, x < n → y < n → z < n → tv f (tv f x y) (tv f (tv g x y) z) = tv f x (tv f y z) ∧ tv g (tv f x y) (tv f (tv g x y) z) = tv f (tv g x (tv f y z)) (tv g y z) ∧ tv g (tv g x y) z = tv g (tv g x (tv f y z)) (tv g y z)
theorem doF_near {n : Nat} {f g : List (List Int)} (hE : YbE n f g) {k : Nat} {l : List Int} (hk : k + 2 < l.length) (hl : Less n l) : doF f g k (doF f g (k + 1) (doF f g k l)) = doF f g (k + 1) (doF f g k (doF f g (k + 1) l)) := by
  have hnv : ∀ i, i < l.length → nv l i < n := fun i hi => by obtain ⟨x, hx, e⟩ := hl i hi; unfold nv; rw [e]; simpa using hx
  obtain ⟨y1, y2, y3⟩ := hE _ _ _ (hnv k (by omega)) (hnv (k + 1) (by omega)) (hnv (k + 1 + 1) (by omega))
  have L1 : (doF f g k l).length = l.length := doF_len _ _ _ _
  have L2 : (doF f g (k + 1) (doF f g k l)).length = l.length := by rw [doF_len, L1]
  have M1 : (doF f g (k + 1) l).length = l.length := doF_len _ _ _ _
  have M2 : (doF f g k (doF f g (k + 1) l)).length = l.length := by rw [doF_len, M1]
  -- one way
  have a0 : nv (doF f g k l) k = tv f (nv l k) (nv l (k + 1)) := by rw [doF_nv (by omega) (by omega), if_pos rfl]
  have a1 : nv (doF f g k l) (k + 1) = tv g (nv l k) (nv l (k + 1)) := by rw [doF_nv (by omega) (by omega), if_neg (by omega), if_pos rfl]
  have a2 : nv (doF f g k l) (k + 1 + 1) = nv l (k + 1 + 1) := by rw [doF_nv (by omega) (by omega), if_neg (by omega), if_neg (by omega)]
  have b0 : nv (doF f g (k + 1) (doF f g k l)) k = tv f (nv l k) (nv l (k + 1)) := by rw [doF_nv (by omega) (by omega), if_neg (by omega), if_neg (by omega), a0]
  have b1 : nv (doF f g (k + 1) (doF f g k l)) (k + 1) = tv f (tv g (nv l k) (nv l (k + 1))) (nv l (k + 1 + 1)) := by rw [doF_nv (by omega) (by omega), if_pos rfl, a1, a2]
  -- the other one
  have c0 : nv (doF f g (k + 1) l) k = nv l k := by rw [doF_nv (by omega) (by omega), if_neg (by omega), if_neg (by omega)]
  have c1 : nv (doF f g (k + 1) l) (k + 1) = tv f (nv l (k + 1)) (nv l (k + 1 + 1)) := by rw [doF_nv (by omega) (by omega), if_pos rfl]
  have c2 : nv (doF f g (k + 1) l) (k + 1 + 1) = tv g (nv l (k + 1)) (nv l (k + 1 + 1)) := by rw [doF_nv (by omega) (by omega), if_neg (by omega), if_pos rfl]
  have d1 : nv (doF f g k (doF f g (k + 1) l)) (k + 1) = tv g (nv l k) (tv f (nv l (k + 1)) (nv l (k + 1 + 1))) := by rw [doF_nv (by omega) (by omega), if_neg (by omega), if_pos rfl, c0, c1]
  have d2 : nv (doF f g k (doF f g (k + 1) l)) (k + 1 + 1) = tv g (nv l (k + 1)) (nv l (k + 1 + 1)) := by rw [doF_nv (by omega) (by omega), if_neg (by omega), if_neg (by omega), c2]
  refine list_ext0' (by simp only [doF_len]) fun j hj => ?_
  simp only [doF_len] at hj
  rw [doF_getR (l := doF f g (k + 1) (doF f g k l)) (by omega) (by omega), doF_getR (l := doF f g k (doF f g (k + 1) l)) (by omega) (by omega), b0, b1, d1, d2]
  by_cases e0 : j = k
  · rw [if_pos e0, if_neg (by omega), if_neg (by omega), doF_getR (by omega) (by omega), if_pos e0, c0, c1, y1]
  · rw [if_neg e0]
    by_cases e1 : j = k + 1
    · rw [if_pos e1, if_pos e1, y2]
    · rw [if_neg e1, if_neg e1]
      by_cases e2 : j = k + 1 + 1
      · rw [if_pos e2, doF_getR (by omega) (by omega), if_neg (by omega), if_pos e2, a1, a2, y3]
      · rw [if_neg e2, doF_getR (by omega) (by omega), if_neg e1, if_neg e2, doF_getR (by omega) (by omega), if_neg e0, if_neg e1, doF_getR (by omega) (by omega), if_neg e0, if_neg e1, doF_getR (by omega) (by omega), if_neg e1, if_neg e2]
theorem plN_one (k : Nat) : plN ((k : Int) + 1) = k := plN_suc k
theorem stepL_one {n : Nat} {f g : List (List Int)} (k : Nat) (l : List Int) : stepL n f g ((k : Int) + 1) l = doF f g k l := by
  unfold stepL; rw [if_pos (by omega), plN_plc, plN_one]
/-! ### strands -/
/-! ### sums -/
end Go.Proofs.YtpdgpgbgakinlaaGreat

namespace Go.Proofs.YtpdgpgbgakinlaaGreat
set_option linter.unusedVariables false
set_option linter.unusedSimpArgs false
theorem wtS_cons (n : Nat) (f g M : List (List Int)) (m x : Int) (xs l : List Int) : wtS n f g M m (x :: xs) l = wtT M m x l (stepL n f g x l) + wtS n f g M m xs (stepL n f g x l) := rfl
theorem wtS_one (n : Nat) (f g M : List (List Int)) (m x : Int) (l : List Int) : wtS n f g M m [x] l = wtT M m x l (stepL n f g x l) := by simp [wtS]
theorem getD_snocW {l : List Int} {i : Nat} (z : Int) (h : i < l.length) : (l ++ [z]).getD i 0 = l.getD i 0 := by
  rw [List.getD_eq_getElem?_getD, List.getElem?_append_left h, ← List.getD_eq_getElem?_getD]
theorem wtS_snoc (n : Nat) (f g M : List (List Int)) (m z : Int) : ∀ (xs l : List Int), (∀ x ∈ xs, (plc x).toNat + 1 < l.length) → wtS n f g M m xs (l ++ [z]) = wtS n f g M m xs l := by
  intro xs
  induction xs with
  | nil => intro l _; rfl
  | cons x xs ih =>
    intro l hx
    have h0 := hx x (by simp)
    have e : stepL n f g x (l ++ [z]) = stepL n f g x l ++ [z] := act_snoc n f g z [x] l (fun y hy => by simp at hy; rw [hy]; exact h0)
    rw [wtS_cons, wtS_cons, e, ih _ fun y hy => by rw [stepL_len]; exact hx y (by simp [hy])]
    congr 1
    have hr : (plc x).toNat + 1 < (stepL n f g x l).length := by rw [stepL_len]; exact h0
    unfold wtT
    rw [getD_snocW z (show (plc x).toNat < l.length by omega), getD_snocW z h0, getD_snocW z (show (plc x).toNat < (stepL n f g x l).length by omega), getD_snocW z hr]
theorem act_ybe {n : Nat} {f g : List (List Int)} (h : YbE n f g) {l : List Int} (h3 : 3 ≤ l.length) (hl : Less n l) : actL n f g [1, 2, 1] l = actL n f g [2, 1, 2] l := by
  have e1 : ∀ l, stepL n f g 1 l = doF f g 0 l := fun l => stepL_one 0 l
  have e2 : ∀ l, stepL n f g 2 l = doF f g 1 l := fun l => stepL_one 1 l
  show stepL n f g 1 (stepL n f g 2 (stepL n f g 1 l)) = stepL n f g 2 (stepL n f g 1 (stepL n f g 2 l))
  rw [e1, e2, e1, e2, e1, e2]
  exact doF_near h (k := 0) (by omega) hl
theorem wtF_cg {n : Nat} {f g M : List (List Int)} {m : Int} (hm : 0 < m) {xs ys l l' : List Int} (h : cg m (wtS n f g M m xs l) (wtS n f g M m ys l')) : wtF n f g M m xs l = wtF n f g M m ys l' := by
  unfold wtF
  have hmod : ∀ x : Int, 0 ≤ x % m ∧ x % m < m := fun x => ⟨Int.emod_nonneg _ (by omega), Int.emod_lt_of_pos _ hm⟩
  exact cg.eq ((cg.mod m _).trans (h.trans (cg.mod m _).symm)) (hmod _).1 (hmod _).2 (hmod _).1 (hmod _).2
end Go.Proofs.YtpdgpgbgakinlaaGreat

namespace Go.Proofs.YtpdgpgbgakinlaaGreat
set_option maxRecDepth 100000
set_option linter.unusedVariables false
set_option linter.unusedSimpArgs false
/-! ### how often each number comes does not depend on the order -/
theorem cnt_swap (C : List Int) (a b : Nat) : (C.set a (C.getD a 0 + 1)).set b ((C.set a (C.getD a 0 + 1)).getD b 0 + 1) = (C.set b (C.getD b 0 + 1)).set a ((C.set b (C.getD b 0 + 1)).getD a 0 + 1) := by
  by_cases e : a = b
  · subst e; rfl
  · have ga : (C.set b (C.getD b 0 + 1)).getD a 0 = C.getD a 0 := by rw [List.getD_eq_getElem?_getD, List.getElem?_set_ne (fun q => e q.symm), ← List.getD_eq_getElem?_getD]
    have gb : (C.set a (C.getD a 0 + 1)).getD b 0 = C.getD b 0 := by rw [List.getD_eq_getElem?_getD, List.getElem?_set_ne e, ← List.getD_eq_getElem?_getD]
    rw [ga, gb]
    apply List.ext_getElem
    · simp
    · intro i h1 h2
      simp only [List.getElem_set]
      by_cases e1 : a = i <;> by_cases e2 : b = i
      · omega
      · simp [e1, e2]
      · simp [e1, e2]
      · simp [e1, e2]
theorem cntL_perm {m : Nat} {L L' : List Int} (h : L.Perm L') : cntL m L = cntL m L' := by
  unfold cntL
  exact h.foldl_eq' (fun x _ y _ z => cnt_swap z x.toNat y.toNat) _
theorem bij_perm {A B : List (List Int)} (hA : A.Nodup) (hB : B.Nodup) (F : List Int → List Int) (inj : ∀ x ∈ A, ∀ y ∈ A, F x = F y → x = y) (h : ∀ b, b ∈ B ↔ ∃ a ∈ A, F a = b) : (A.map F).Perm B := by
  have hnd : (A.map F).Nodup := by
    rw [List.nodup_iff_pairwise_ne, List.pairwise_map]
    refine List.Pairwise.imp_of_mem ?_ (List.nodup_iff_pairwise_ne.1 hA)
    intro a b ha hb hab e
    exact hab (inj a ha b hb e)
  exact (List.perm_ext_iff_of_nodup hnd hB).2 fun a => by rw [List.mem_map, h]
theorem set_sum {C : List Int} {a : Nat} (h : a < C.length) (z : Int) : (C.set a z).sum = C.sum - C.getD a 0 + z := by
  induction C generalizing a with
  | nil => simp at h
  | cons c r ih =>
    cases a with
    | zero => simp; omega
    | succ a =>
      have := ih (a := a) (by simpa using h)
      simp only [List.set_cons_succ, List.sum_cons, List.getD_cons_succ, this]
      omega
section
variable {n : Nat} {f g M : List (List Int)} {m : Int}
theorem stab_wts (hm : 0 < m) (hn : 1 ≤ n) (hf : Sq n f) (hg : Sq n g) (hc : collOk n f g = true) (hq : ∀ x y, x < n → y < n → tv g x y = x) (hd : ∀ x, x < n → tv f x x = x) (hM : ∀ x, x < n → tv M x x = 0) {s : Nat} {xs : List Int} {x : Int} (hx : x = (s : Int) + 1 ∨ x = -((s : Int) + 1)) (hxs : ∀ y ∈ xs, (plc y).toNat + 1 < s + 1) :
    ((colsL n (s + 2) f g (xs ++ [x])).map (wtF n f g M m (xs ++ [x]))).Perm ((colsL n (s + 1) f g xs).map (wtF n f g M m xs)) := by
  have hP := bij_perm (A := colsL n (s + 1) f g xs) (B := colsL n (s + 2) f g (xs ++ [x])) cols_nd cols_nd (fun l => l ++ [l.getD s 0])
    (by intro a ha b hb e; exact (List.append_inj' e rfl).1)
    (by
      intro b
      rw [cols_mem hn, stab_fix hn hf hg hc hq hd hx hxs]
      constructor
      · rintro ⟨l, h1, h2⟩; exact ⟨l, (cols_mem hn).2 h1, h2⟩
      · rintro ⟨l, h1, h2⟩; exact ⟨l, (cols_mem hn).1 h1, h2⟩)
  have hmap := (hP.map (wtF n f g M m (xs ++ [x]))).symm
  rw [List.map_map] at hmap
  refine hmap.trans (List.Perm.of_eq (List.map_congr_left fun a ha => ?_))
  rw [cols_mem hn] at ha
  obtain ⟨h1, h2, h3⟩ := ha
  have hfix := (stab_fix hn hf hg hc hq hd hx hxs (a ++ [a.getD s 0])).2 ⟨a, ⟨h1, h2, h3⟩, rfl⟩
  have hxa : ∀ y ∈ xs, (plc y).toNat + 1 < a.length := fun y hy => by rw [h1]; exact hxs y hy
  show wtF n f g M m (xs ++ [x]) (a ++ [a.getD s 0]) = wtF n f g M m xs a
  have hA : actL n f g xs (a ++ [a.getD s 0]) = a ++ [a.getD s 0] := by rw [act_snoc n f g _ xs a hxa, h3]
  have hS : stepL n f g x (a ++ [a.getD s 0]) = a ++ [a.getD s 0] := by
    have := hfix.2.2
    rw [actL_app, hA] at this
    exact this
  have hpx : (plc x).toNat = s := by
    rcases hx with rfl | rfl
    · exact plc_p s
    · rw [plc_neg (by omega)]; exact plc_p s
  obtain ⟨k, hk, ek⟩ := h2 s (by omega)
  have e0 : (a ++ [a.getD s 0]).getD s 0 = (k : Int) := by rw [getD_snocW _ (by omega)]; exact ek
  have e1 : (a ++ [a.getD s 0]).getD (s + 1) 0 = (k : Int) := by rw [← h1, ek]; simp [List.getD_eq_getElem?_getD]
  refine wtF_cg hm ?_
  rw [wtS_append, hA, wtS_snoc n f g M m _ xs a hxa, wtS_one, hS]
  unfold wtT
  rw [hpx, e0, e1, Int.toNat_natCast, hM k hk]
  split
  · exact ⟨0, by simp⟩
  · exact ⟨1, by simp⟩
/-! ### bounds -/
def gsm (gs : List Int) (l : List Int) : Int := (l.map fun y => gs.getD y.toNat 0).sum
theorem gsm_set (gs : List Int) {l : List Int} {a : Nat} (h : a < l.length) (z : Int) : gsm gs (l.set a z) = gsm gs l - gs.getD (l.getD a 0).toNat 0 + gs.getD z.toNat 0 := by
  unfold gsm
  rw [List.map_set, set_sum (by simpa using h)]
  congr 2
  simp [List.getD_eq_getElem?_getD, List.getElem?_map, List.getElem?_eq_getElem h]
theorem gsm_do (gs : List Int) {l : List Int} {k : Nat} (h : k + 1 < l.length) : gsm gs (doF f g k l) = gsm gs l + (gs.getD (tv f (l.getD k 0).toNat (l.getD (k + 1) 0).toNat) 0 + gs.getD (tv g (l.getD k 0).toNat (l.getD (k + 1) 0).toNat) 0 - gs.getD (l.getD k 0).toNat 0 - gs.getD (l.getD (k + 1) 0).toNat 0) := by
  unfold doF
  have e : (l.set k ((tv f (l.getD k 0).toNat (l.getD (k + 1) 0).toNat : Nat) : Int)).getD (k + 1) 0 = l.getD (k + 1) 0 := by
    simp [List.getD_eq_getElem?_getD, List.getElem?_set]
  rw [gsm_set gs (by rw [List.length_set]; exact h), gsm_set gs (by omega), e]
  simp only [Int.toNat_natCast]
  omega
theorem bnd_tv (gs : List Int) (hm : 0 < m) {x y : Nat} (hx : x < n) (hy : y < n) : ((tv (bndL n m f g gs) x y : Nat) : Int) = bndE m f g gs x y := by
  unfold tv bndL
  rw [tv_tabF n _ hx hy]
  have : 0 ≤ bndE m f g gs x y := Int.emod_nonneg _ (by omega)
  omega
theorem bnd_cg (gs : List Int) (x y : Nat) : cg m (bndE m f g gs x y) (gs.getD (tv f x y) 0 + gs.getD (tv g x y) 0 - gs.getD x 0 - gs.getD y 0) := by
  unfold bndE
  exact (cg.mod m _).trans ⟨2, by omega⟩
theorem bnd_T (gs : List Int) (hm : 0 < m) (hn : 1 ≤ n) (hf : Sq n f) (hg : Sq n g) (hc : collOk n f g = true) {x : Int} {l : List Int} (hx : x ≠ 0) (hi : (plc x).toNat + 1 < l.length) (h : Less n l) :
    cg m (wtT (bndL n m f g gs) m x l (stepL n f g x l)) (gsm gs (stepL n f g x l) - gsm gs l) := by
  have key : ∀ l : List Int, (plc x).toNat + 1 < l.length → Less n l → cg m ((tv (bndL n m f g gs) (l.getD (plc x).toNat 0).toNat (l.getD ((plc x).toNat + 1) 0).toNat : Nat) : Int) (gsm gs (doF f g (plc x).toNat l) - gsm gs l) := fun l hi h => by
    obtain ⟨a, ha, ea⟩ := h _ (show (plc x).toNat < l.length by omega)
    obtain ⟨b, hb, eb⟩ := h _ hi
    rw [gsm_do gs hi, ea, eb, Int.toNat_natCast, Int.toNat_natCast, bnd_tv gs hm ha hb]
    refine (bnd_cg gs a b).trans (cg.of ?_)
    omega
  by_cases hp : 0 < x
  · have := key l hi h
    unfold wtT stepL
    rw [if_pos hp, if_pos hp]
    exact this
  · have hb := step_back hn hf hg hc hx hi h
    have hr : Less n (stepL n f g x l) := h.step hn hf hg hc x hi
    have hk := key (stepL n f g x l) (by rw [stepL_len]; exact hi) hr
    have e : doF f g (plc x).toNat (stepL n f g x l) = l := by
      have : stepL n f g (-x) (stepL n f g x l) = doF f g (plc (-x)).toNat (stepL n f g x l) := by
        conv => lhs; unfold stepL
        rw [if_pos (by omega)]
        rfl
      rw [plc_neg hx] at this
      rw [← this, hb]
    rw [e] at hk
    unfold wtT
    rw [if_neg hp]
    have h2 := (cg.refl m m).sub hk
    refine h2.trans ⟨1, ?_⟩
    omega
theorem bnd_S (gs : List Int) (hm : 0 < m) (hn : 1 ≤ n) (hf : Sq n f) (hg : Sq n g) (hc : collOk n f g = true) : ∀ (xs l : List Int), (∀ x ∈ xs, x ≠ 0 ∧ (plc x).toNat + 1 < l.length) → Less n l →
    cg m (wtS n f g (bndL n m f g gs) m xs l) (gsm gs (actL n f g xs l) - gsm gs l) := by
  intro xs
  induction xs with
  | nil => intro l _ _; exact cg.of (by simp [wtS, actL])
  | cons x xs ih =>
    intro l hx h
    have h0 := hx x List.mem_cons_self
    have ih := ih (stepL n f g x l) (fun y hy => by rw [stepL_len]; exact hx y (List.mem_cons_of_mem _ hy)) (h.step hn hf hg hc x h0.2)
    rw [wtS_cons]
    refine ((bnd_T gs hm hn hf hg hc h0.1 h0.2 h).add ih).trans (cg.of ?_)
    have e : actL n f g (x :: xs) l = actL n f g xs (stepL n f g x l) := rfl
    rw [e]; omega
/-! ### sums of matrices -/
theorem add_tv (B : List (List Int)) (hm : 0 < m) (hM : SqM n m.toNat M) (hB : SqM n m.toNat B) {x y : Nat} (hx : x < n) (hy : y < n) : cg m ((tv (tabF n (addE m M B)) x y : Nat) : Int) ((tv M x y : Nat) + (tv B x y : Nat) : Int) := by
  unfold tv
  rw [tv_tabF n _ hx hy]
  have h0 : 0 ≤ addE m M B x y := Int.emod_nonneg _ (by omega)
  have e1 := ((hM.2 x hx).2 y hy).2
  have e2 := ((hB.2 x hx).2 y hy).2
  refine cg.trans (cg.of (show _ = addE m M B x y by omega)) ?_
  unfold addE get2
  refine (cg.mod m _).trans (cg.of ?_)
  rw [e1, e2]; simp
theorem add_S (B : List (List Int)) (hm : 0 < m) (hn : 1 ≤ n) (hf : Sq n f) (hg : Sq n g) (hc : collOk n f g = true) (hM : SqM n m.toNat M) (hB : SqM n m.toNat B) : ∀ (xs l : List Int), (∀ x ∈ xs, (plc x).toNat + 1 < l.length) → Less n l →
    cg m (wtS n f g (tabF n (addE m M B)) m xs l) (wtS n f g M m xs l + wtS n f g B m xs l) := by
  intro xs
  induction xs with
  | nil => intro l _ _; exact cg.of (by simp [wtS])
  | cons x xs ih =>
    intro l hx h
    have h0 := hx x List.mem_cons_self
    have hr : Less n (stepL n f g x l) := h.step hn hf hg hc x h0
    have ih := ih (stepL n f g x l) (fun y hy => by rw [stepL_len]; exact hx y (List.mem_cons_of_mem _ hy)) hr
    have hT : cg m (wtT (tabF n (addE m M B)) m x l (stepL n f g x l)) (wtT M m x l (stepL n f g x l) + wtT B m x l (stepL n f g x l)) := by
      unfold wtT
      by_cases hp : 0 < x
      · simp only [if_pos hp]
        obtain ⟨a, ha, ea⟩ := h _ (show (plc x).toNat < l.length by omega)
        obtain ⟨b, hb, eb⟩ := h _ h0
        rw [ea, eb, Int.toNat_natCast, Int.toNat_natCast]
        exact add_tv B hm hM hB ha hb
      · simp only [if_neg hp]
        have hrl : (plc x).toNat + 1 < (stepL n f g x l).length := by rw [stepL_len]; exact h0
        obtain ⟨a, ha, ea⟩ := hr _ (show (plc x).toNat < (stepL n f g x l).length by omega)
        obtain ⟨b, hb, eb⟩ := hr _ hrl
        rw [ea, eb, Int.toNat_natCast, Int.toNat_natCast]
        have := (cg.refl m m).sub (add_tv B hm hM hB ha hb)
        refine this.trans ⟨-1, ?_⟩
        omega
    rw [wtS_cons, wtS_cons, wtS_cons]
    refine (hT.add ih).trans (cg.of ?_)
    omega
theorem sqm_bnd (gs : List Int) (hm : 0 < m) : SqM n m.toNat (bndL n m f g gs) := by
  refine ⟨tabF_len _ _, fun x hx => ⟨by unfold bndL; rw [tabF_get _ _ x hx]; simp, fun y hy => ?_⟩⟩
  have e := bnd_tv (f := f) (g := g) gs hm hx hy
  have e2 : ((bndL n m f g gs).getD x []).getD y 0 = bndE m f g gs x y := by unfold bndL; exact tv_tabF n _ hx hy
  have h0 : 0 ≤ bndE m f g gs x y ∧ bndE m f g gs x y < m := ⟨Int.emod_nonneg _ (by omega), Int.emod_lt_of_pos _ hm⟩
  exact ⟨by omega, by rw [e2]; omega⟩
theorem let3 : ∀ x ∈ [(1 : Int), 2, 1], x ≠ 0 ∧ (plc x).toNat + 1 < 3 := by decide
theorem let3' : ∀ x ∈ [(2 : Int), 1, 2], x ≠ 0 ∧ (plc x).toNat + 1 < 3 := by decide
theorem fltL_none {n : Nat} {P : List Int → Bool} (h : ∀ N, N < n * n * n → P (digL n 3 N) = false) : fltL n P = [] := by
  unfold fltL
  have : (List.range (n * n * n)).find? (fun N => P (digL n 3 N)) = none := by
    rw [List.find?_eq_none]
    intro N hN
    rw [h N (List.mem_range.1 hN)]; simp
  rw [this]
theorem fltL_same {n : Nat} {P Q : List Int → Bool} (h : ∀ N, P (digL n 3 N) = Q (digL n 3 N)) : fltL n P = fltL n Q := by
  unfold fltL
  have : (fun N => P (digL n 3 N)) = fun N => Q (digL n 3 N) := funext h
  rw [this]
theorem bnd_flt (gs : List Int) (hm : 0 < m) (hn : 1 ≤ n) (hf : Sq n f) (hg : Sq n g) (hc : collOk n f g = true) (hy : YbE n f g) : wtFlt n f g (bndL n m f g gs) m = [] := by
  refine fltL_none fun N _ => ?_
  have hl := digL_len n 3 N
  have hle := digL_less n 3 N hn
  have h1 := bnd_S gs hm hn hf hg hc [1, 2, 1] (digL n 3 N) (by rw [hl]; exact let3) hle
  have h2 := bnd_S gs hm hn hf hg hc [2, 1, 2] (digL n 3 N) (by rw [hl]; exact let3') hle
  rw [act_ybe hy (by omega) hle] at h1
  have := wtF_cg hm (h1.trans h2.symm)
  unfold wtBad
  simp [this]
theorem add_flt (gs : List Int) (hm : 0 < m) (hn : 1 ≤ n) (hf : Sq n f) (hg : Sq n g) (hc : collOk n f g = true) (hy : YbE n f g) (hM : SqM n m.toNat M) : wtFlt n f g (tabF n (addE m M (bndL n m f g gs))) m = wtFlt n f g M m := by
  refine fltL_same fun N => ?_
  have hl := digL_len n 3 N
  have hle := digL_less n 3 N hn
  have h1 := bnd_S gs hm hn hf hg hc [1, 2, 1] (digL n 3 N) (by rw [hl]; exact let3) hle
  have h2 := bnd_S gs hm hn hf hg hc [2, 1, 2] (digL n 3 N) (by rw [hl]; exact let3') hle
  rw [act_ybe hy (by omega) hle] at h1
  have a1 := add_S (bndL n m f g gs) hm hn hf hg hc hM (sqm_bnd gs hm) [1, 2, 1] (digL n 3 N) (by rw [hl]; exact fun x q => (let3 x q).2) hle
  have a2 := add_S (bndL n m f g gs) hm hn hf hg hc hM (sqm_bnd gs hm) [2, 1, 2] (digL n 3 N) (by rw [hl]; exact fun x q => (let3' x q).2) hle
  have hmod : ∀ a b : Int, cg m a b → a % m = b % m := fun a b ⟨k, e⟩ => by rw [e, Int.add_mul_emod_self_left]
  have back : ∀ a b : Int, a % m = b % m → cg m a b := fun a b e => (cg.mod m a).symm.trans ((cg.of e).trans (cg.mod m b))
  unfold wtBad wtF
  congr 1
  rw [decide_eq_decide]
  constructor
  · intro e
    have q := (a1.symm.trans ((back _ _ e).trans a2))
    have q2 := q.sub (h1.trans h2.symm)
    refine hmod _ _ (cg.trans (cg.of ?_) (q2.trans (cg.of ?_))) <;> omega
  · intro e
    exact hmod _ _ (a1.trans (((back _ _ e).add (h1.trans h2.symm)).trans a2.symm))
end
end Go.Proofs.YtpdgpgbgakinlaaGreat

namespace Go.Proofs.YtpdgpgbgakinlaaGreat
set_option maxRecDepth 100000
set_option linter.unusedVariables false
set_option linter.unusedSimpArgs false
theorem qs_facts (t : List (List Int)) (m : Int) (M : List (List Int)) (s : Int) (xs : List Int) : (∃ k, k ≠ 0 ∧ qsF t m M s xs = ([], k)) ∨
    ∃ N : Nat, s = N ∧ isRk t = true ∧ isBr N xs = true ∧ isMx t.length m M = true ∧ qwOk t m M = true ∧ qsF t m M N xs = (cntL m.toNat ((colsL t.length N t (cstL t.length) xs).map (wtF t.length t (cstL t.length) M m xs)), 0) := by
  cases q0 : isRk t with
  | false => exact .inl ⟨1, by decide, qsF_0 q0⟩
  | true =>
  cases q1 : isBr s xs with
  | false => exact .inl ⟨1, by decide, qsF_1 q0 q1⟩
  | true =>
  cases q2 : isMx t.length m M with
  | false => exact .inl ⟨2, by decide, qsF_2 q0 q1 q2⟩
  | true =>
  cases q3 : qwOk t m M with
  | false => exact .inl ⟨5, by decide, qsF_3 q0 q1 q2 q3⟩
  | true =>
  have hs := (isBr_let q1).1
  obtain ⟨N, rfl⟩ : ∃ N : Nat, s = N := ⟨s.toNat, by omega⟩
  have e := qsF_4 q0 q1 q2 q3
  have hfl : wtFlt t.length t (cstL t.length) M m = [] := by
    unfold qwOk at q3
    rw [Bool.and_eq_true, Bool.and_eq_true] at q3
    simpa using q3.2.2
  by_cases h5 : t.length ^ N ≤ 5000
  · refine .inr ⟨N, rfl, rfl, q1, rfl, rfl, ?_⟩
    rw [e]
    have := cwF_5 (f := t) (g := cstL t.length) (s := N) (rk_isSol q0) q1 q2 hfl (by rw [Int.toNat_natCast]; exact h5)
    rw [Int.toNat_natCast] at this
    unfold stF
    rw [this]; rfl
  · refine .inl ⟨3, by decide, ?_⟩
    rw [e]
    have := cwF_4 (f := t) (g := cstL t.length) (s := N) (rk_isSol q0) q1 q2 hfl (by rw [Int.toNat_natCast]; exact h5)
    unfold stF
    rw [this]; rfl
section
variable {t M : List (List Int)} {m : Int} {N : Nat} {xs : List Int}
theorem qs_br (h2 : isBr N xs = true) {g : Int} (hg : g = 1 ∨ g = -1) (h6 : ¬ ((N : Int) = 6 ∨ xs.length = 30)) : isBr ((N : Int) + 1) (xs ++ [g * N]) = true := by
  obtain ⟨h2', h6', h30, hlt⟩ := br_ltr h2
  have : isBr ((N + 1 : Nat) : Int) (xs ++ [g * N]) = true := by
    refine ltr_br (by omega) (by omega) (fun x hx => ?_) (by simp; omega)
    rcases List.mem_append.1 hx with hx | hx
    · have := hlt x hx; exact ⟨this.1, by have := this.2; omega⟩
    · simp at hx
      rcases hg with rfl | rfl
      · exact ⟨by omega, by unfold plN; split <;> omega⟩
      · exact ⟨by omega, by unfold plN; split <;> omega⟩
  have e : ((N + 1 : Nat) : Int) = (N : Int) + 1 := by omega
  rw [e] at this; exact this
theorem qs_stab (h1 : isRk t = true) (h2 : isBr N xs = true) (h3 : isMx t.length m M = true) (h4 : qwOk t m M = true) {L : List Int} (h5 : qsF t m M N xs = (L, 0)) {g : Int} (hg : g = 1 ∨ g = -1) (h6 : ¬ ((N : Int) = 6 ∨ xs.length = 30)) :
    qsF t m M ((N : Int) + 1) (xs ++ [g * N]) = ([], 3) ∨ qsF t m M ((N : Int) + 1) (xs ++ [g * N]) = (L, 0) := by
  have hb := qs_br h2 hg h6
  have hsol := rk_isSol h1
  obtain ⟨n1, n12, sf, sg⟩ := isSol_sq hsol
  have hc := isSol_coll hsol
  obtain ⟨hm, hsq⟩ := isMx_sq h3
  have hN := (isBr_let h2).1
  have hlt := (br_ltr h2).2.2.2
  have hq := h4
  unfold qwOk at hq
  rw [Bool.and_eq_true, Bool.and_eq_true] at hq
  obtain ⟨qd, qq, qf⟩ := hq
  have hfl : wtFlt t.length t (cstL t.length) M m = [] := by simpa using qf
  rcases qs_facts t m M N xs with ⟨k, hk, e⟩ | ⟨N', e0, _, _, _, _, e⟩
  · rw [h5] at e; exact absurd (congrArg Prod.snd e).symm hk
  obtain rfl : N = N' := by omega
  have eN : (N : Int) + 1 = ((N + 1 : Nat) : Int) := by omega
  rw [qsF_4 h1 hb h3 h4]
  by_cases hl : t.length ^ (N + 1) ≤ 5000
  · refine .inr ?_
    rw [← h5, e]
    have hcw := cwF_5 (f := t) (g := cstL t.length) (s := (N : Int) + 1) hsol hb h3 hfl (by rw [eN, Int.toNat_natCast]; exact hl)
    rw [eN, Int.toNat_natCast] at hcw
    unfold stF
    rw [eN, hcw]
    simp only [if_true]
    congr 1
    obtain ⟨s, rfl⟩ : ∃ s, N = s + 1 := ⟨N - 1, by omega⟩
    refine cntL_perm (stab_wts (by omega) n1 sf sg hc (fun x y hx hy => tv_cst hx hy) (fun x hx => ?_) (fun x hx => ?_) ?_ (fun y hy => ?_))
    · have := allN_get qq hx; simpa using this
    · have := allN_get qd hx; simpa using this
    · rcases hg with rfl | rfl <;> omega
    · have := (isBr_let h2).2.2 y hy
      unfold plc; split <;> omega
  · refine .inl ?_
    have hcw := cwF_4 (f := t) (g := cstL t.length) (s := (N : Int) + 1) hsol hb h3 hfl (by rw [eN, Int.toNat_natCast]; exact hl)
    unfold stF
    rw [hcw]; rfl
theorem qs_stabF (h2 : isBr N xs = true) {g : Int} (hg : g = 1 ∨ g = -1) : stabF N xs g = (0, [], 3) ∨ ¬ ((N : Int) = 6 ∨ xs.length = 30) ∧ stabF N xs g = ((N : Int) + 1, xs ++ [g * N], 0) := by
  unfold stabF
  rw [if_pos h2, if_pos hg]
  by_cases h : (N : Int) = 6 ∨ xs.length = 30
  · exact .inl (if_pos h)
  · exact .inr ⟨h, if_neg h⟩
end
end Go.Proofs.YtpdgpgbgakinlaaGreat

namespace Go.Proofs.YtpdgpgbgakinlaaGreat
set_option maxRecDepth 100000
set_option linter.unusedVariables false
set_option linter.unusedSimpArgs false
/-! ### a braid and its inverse -/
end Go.Proofs.YtpdgpgbgakinlaaGreat

namespace Go.Proofs.YtpdgpgbgakinlaaGreat
set_option linter.unusedVariables false
set_option linter.unusedSimpArgs false
theorem bwt_facts (f g : List (List Int)) (m : Int) (M : List (List Int)) (s : Int) (xs l : List Int) : (∃ k, wotF f g m M s xs l = (0, k) ∧ (k = 1 ∨ k = 2)) ∨
    ∃ N : Nat, s = N ∧ isSol f g = true ∧ isBr N xs = true ∧ isMx f.length m M = true ∧ l.length = N ∧ Less f.length l ∧ wotF f g m M s xs l = (wtF f.length f g M m xs l, 0) := by
  unfold wotF
  cases h1 : isSol f g with
  | false => exact .inl ⟨1, by simp, .inl rfl⟩
  | true =>
    cases h2 : isBr s xs with
    | false => exact .inl ⟨1, by simp, .inl rfl⟩
    | true =>
      cases h3 : isMx f.length m M with
      | false => exact .inl ⟨2, by simp, .inr rfl⟩
      | true =>
        by_cases h4 : (l.length : Int) = s
        · cases h5 : l.all (rngB 0 ((f.length : Int) - 1)) with
          | false => exact .inl ⟨2, by simp [h4], .inr rfl⟩
          | true =>
            refine .inr ⟨l.length, h4.symm, rfl, by rw [h4]; exact h2, rfl, rfl, fun i hi => ?_, by simp [h4]⟩
            rw [List.all_eq_true] at h5
            have := h5 l[i] (List.getElem_mem hi)
            unfold rngB at this
            rw [Bool.and_eq_true] at this
            have h6 := of_decide_eq_true this.1
            have h7 := of_decide_eq_true this.2
            refine ⟨(l[i]).toNat, by omega, ?_⟩
            rw [List.getD_eq_getElem?_getD, List.getElem?_eq_getElem hi, Option.getD_some]; omega
        · exact .inl ⟨2, by simp [h4], .inr rfl⟩
theorem wot_ok {f g : List (List Int)} {m : Int} {M : List (List Int)} {N : Nat} {xs l : List Int} (h1 : isSol f g = true) (h2 : isBr N xs = true) (h3 : isMx f.length m M = true) (h4 : l.length = N) (h5 : Less f.length l) : wotF f g m M N xs l = (wtF f.length f g M m xs l, 0) := by
  rcases bwt_facts f g m M N xs l with ⟨k, h, hk⟩ | ⟨N', e, _, _, _, _, _, h⟩
  · unfold wotF at h
    have h6 : l.all (rngB 0 ((f.length : Int) - 1)) = true := by
      rw [List.all_eq_true]
      intro x hx
      obtain ⟨i, hi, rfl⟩ := List.getElem_of_mem hx
      obtain ⟨k, hk, e⟩ := h5 i hi
      rw [List.getD_eq_getElem?_getD, List.getElem?_eq_getElem hi, Option.getD_some] at e
      unfold rngB; rw [e]; simp; omega
    rw [if_pos h1, if_pos h2, if_pos h3, if_pos (by omega), if_pos h6] at h
    have := congrArg Prod.snd h
    simp at this; omega
  · exact h
end Go.Proofs.YtpdgpgbgakinlaaGreat

namespace Go.Proofs.YtpdgpgbgakinlaaGreat
set_option maxRecDepth 100000
set_option linter.unusedVariables false
set_option linter.unusedSimpArgs false
theorem ybE_of {f g : List (List Int)} (h : isSol f g = true) : YbE f.length f g := fun x y z hx hy hz => by
  unfold isSol at h
  rw [Bool.and_eq_true, Bool.and_eq_true] at h
  exact eqOk_at h.2.2 hx hy hz
section
variable {f g M : List (List Int)} {m : Int} {N : Nat} {xs : List Int}
end
end Go.Proofs.YtpdgpgbgakinlaaGreat
