/-
  Walks and plain laws of this seat, some texts in one.
  No condition but bounds on lengths.
-/
import Derived.Test.YtpdgpgbgakinlaaGreatPb35
import Derived.Test.YtpdgpgbgakinlaaGreatPb10
import Derived.Test.YtpdgpgbgakinlaaGreatPb7
import Derived.Test.YtpdgpgbgakinlaaGreatPb4
import Derived.Test.YtpdgpgbgakinlaaGreatPb5
import Derived.Test.YtpdgpgbgakinlaaGreatPb16
import Derived.Test.YtpdgpgbgakinlaaGreatPb3
import Derived.Test.YtpdgpgbgakinlaaGreatPb1
import Derived.Lib.AppendZeros
import Derived.Deep.RegionHeld3
import Derived.Test.YtpdgpgbgakinlaaGreatPb15
import Derived.Test.YtpdgpgbgakinlaaGreatPb17
import Derived.Test.YtpdgpgbgakinlaaGreatPb11
import Derived.Shelf.Abstract
import Derived.Test.YtpdgpgbgakinlaaGreatPb2
import Derived.Test.YtpdgpgbgakinlaaGreatPb8
namespace Go.Proofs.YtpdgpgbgakinlaaGreat
set_option linter.unusedVariables false
set_option linter.unusedSimpArgs false
set_option maxRecDepth 100000
/-! ### the permutation as a function -/
def kpl (x : Int) : Nat := (plc x).toNat
def LetS (s : Nat) (xs : List Int) : Prop := ∀ x ∈ xs, kpl x + 1 < s
theorem LetS.of {s : Nat} {xs : List Int} (h : isBr s xs = true) : LetS s xs := fun x hx => by
  have := plc_let ((isBr_let h).2.2 x hx)
  unfold kpl; omega
theorem LetS.plc {s : Nat} {xs : List Int} (h : isBr s xs = true) : ∀ x ∈ xs, 0 ≤ plc x ∧ plc x + 1 < s := fun x hx => plc_let ((isBr_let h).2.2 x hx)
/-! ### the finite checks, used -/
end Go.Proofs.YtpdgpgbgakinlaaGreat

namespace Go.Proofs.YtpdgpgbgakinlaaGreat
set_option linter.unusedVariables false
set_option linter.unusedSimpArgs false
set_option maxRecDepth 100000
open Go.RowKit
/-! ### sums -/
/-! ### the sum of all entries, those on the diagonal twice -/
theorem LetS.take {s : Nat} {xs : List Int} (h : LetS s xs) (k : Nat) : LetS s (xs.take k) := fun x hx => h x (List.mem_of_mem_take hx)
/-! ### letters between two components are an even number -/
/-! ### the mirror -/
end Go.Proofs.YtpdgpgbgakinlaaGreat

namespace Go.Proofs.YtpdgpgbgakinlaaGreat
set_option maxRecDepth 100000
set_option linter.unusedVariables false
set_option linter.unusedSimpArgs false
theorem plN_plc (x : Int) : (plc x).toNat = plN x := by unfold plc plN; split <;> rfl
theorem list_ext0' {l l' : List Int} (hl : l.length = l'.length) (h : ∀ i, i < l.length → l.getD i 0 = l'.getD i 0) : l = l' := by
  refine List.ext_getElem hl fun i h1 h2 => ?_
  have := h i h1
  simpa [List.getD_eq_getElem?_getD, h1, h2] using this
/-! ### the action -/
def nv (l : List Int) (i : Nat) : Nat := (l.getD i 0).toNat
theorem doF_getR {f g : List (List Int)} {i j : Nat} {l : List Int} (hi : i + 1 < l.length) (hj : j < l.length) : (doF f g i l).getD j 0 = if j = i then ((tv f (nv l i) (nv l (i + 1)) : Nat) : Int) else if j = i + 1 then ((tv g (nv l i) (nv l (i + 1)) : Nat) : Int) else l.getD j 0 := by
  unfold doF nv
  rw [getD_set' _ _ _ _ _ (by rw [List.length_set]; exact hj), getD_set' _ _ _ _ _ hj]
  by_cases e : j = i + 1
  · rw [if_pos e, if_neg (by omega), if_pos e]
  · rw [if_neg e]
    by_cases e2 : j = i
    · rw [if_pos e2, if_pos e2]
    · rw [if_neg e2, if_neg e2, if_neg e]
theorem doF_nv {f g : List (List Int)} {i j : Nat} {l : List Int} (hi : i + 1 < l.length) (hj : j < l.length) : nv (doF f g i l) j = if j = i then tv f (nv l i) (nv l (i + 1)) else if j = i + 1 then tv g (nv l i) (nv l (i + 1)) else nv l j := by
  have := doF_getR (f := f) (g := g) hi hj
  unfold nv at *
  rw [this]
  split
  · simp
  · split
    · simp
    · rfl
def YbE (n : Nat) (f g : List (List Int)) : Prop := ∀ x y z, x < n → y < n → z < n → tv f (tv f x y) (tv f (tv g x y) z) = tv f x (tv f y z) ∧ tv g (tv f x y) (tv f (tv g x y) z) = tv f (tv g x (tv f y z)) (tv g y z) ∧ tv g (tv g x y) z = tv g (tv g x (tv f y z)) (tv g y z)
theorem doF_near {n : Nat} {f g : List (List Int)} (hE : YbE n f g) {k : Nat} {l : List Int} (hk : k + 2 < l.length) (hl : Less n l) : doF f g k (doF f g (k + 1) (doF f g k l)) = doF f g (k + 1) (doF f g k (doF f g (k + 1) l)) := by
  have hnv : ∀ i, i < l.length → nv l i < n := fun i hi => by obtain ⟨x, hx, e⟩ := hl i hi; unfold nv; rw [e]; simpa using hx
  obtain ⟨y1, y2, y3⟩ := hE _ _ _ (hnv k (by omega)) (hnv (k + 1) (by omega)) (hnv (k + 1 + 1) (by omega))
  have L1 : (doF f g k l).length = l.length := doF_len _ _ _ _
  have L2 : (doF f g (k + 1) (doF f g k l)).length = l.length := by rw [doF_len, L1]
  have M1 : (doF f g (k + 1) l).length = l.length := doF_len _ _ _ _
  have M2 : (doF f g k (doF f g (k + 1) l)).length = l.length := by rw [doF_len, M1]
  -- one way
  have a0 : nv (doF f g k l) k = tv f (nv l k) (nv l (k + 1)) := by rw [doF_nv (by omega) (by omega), if_pos rfl]
  have a1 : nv (doF f g k l) (k + 1) = tv g (nv l k) (nv l (k + 1)) := by rw [doF_nv (by omega) (by omega), if_neg (by omega), if_pos rfl]
  have a2 : nv (doF f g k l) (k + 1 + 1) = nv l (k + 1 + 1) := by rw [doF_nv (by omega) (by omega), if_neg (by omega), if_neg (by omega)]
  have b0 : nv (doF f g (k + 1) (doF f g k l)) k = tv f (nv l k) (nv l (k + 1)) := by rw [doF_nv (by omega) (by omega), if_neg (by omega), if_neg (by omega), a0]
  have b1 : nv (doF f g (k + 1) (doF f g k l)) (k + 1) = tv f (tv g (nv l k) (nv l (k + 1))) (nv l (k + 1 + 1)) := by rw [doF_nv (by omega) (by omega), if_pos rfl, a1, a2]
  -- the other one
  have c0 : nv (doF f g (k + 1) l) k = nv l k := by rw [doF_nv (by omega) (by omega), if_neg (by omega), if_neg (by omega)]
  have c1 : nv (doF f g (k + 1) l) (k + 1) = tv f (nv l (k + 1)) (nv l (k + 1 + 1)) := by rw [doF_nv (by omega) (by omega), if_pos rfl]
  have c2 : nv (doF f g (k + 1) l) (k + 1 + 1) = tv g (nv l (k + 1)) (nv l (k + 1 + 1)) := by rw [doF_nv (by omega) (by omega), if_neg (by omega), if_pos rfl]
  have d1 : nv (doF f g k (doF f g (k + 1) l)) (k + 1) = tv g (nv l k) (tv f (nv l (k + 1)) (nv l (k + 1 + 1))) := by rw [doF_nv (by omega) (by omega), if_neg (by omega), if_pos rfl, c0, c1]
  have d2 : nv (doF f g k (doF f g (k + 1) l)) (k + 1 + 1) = tv g (nv l (k + 1)) (nv l (k + 1 + 1)) := by rw [doF_nv (by omega) (by omega), if_neg (by omega), if_neg (by omega), c2]
  refine list_ext0' (by simp only [doF_len]) fun j hj => ?_
  simp only [doF_len] at hj
  rw [doF_getR (l := doF f g (k + 1) (doF f g k l)) (by omega) (by omega), doF_getR (l := doF f g k (doF f g (k + 1) l)) (by omega) (by omega), b0, b1, d1, d2]
  by_cases e0 : j = k
  · rw [if_pos e0, if_neg (by omega), if_neg (by omega), doF_getR (by omega) (by omega), if_pos e0, c0, c1, y1]
  · rw [if_neg e0]
    by_cases e1 : j = k + 1
    · rw [if_pos e1, if_pos e1, y2]
    · rw [if_neg e1, if_neg e1]
      by_cases e2 : j = k + 1 + 1
      · rw [if_pos e2, doF_getR (by omega) (by omega), if_neg (by omega), if_pos e2, a1, a2, y3]
      · rw [if_neg e2, doF_getR (by omega) (by omega), if_neg e1, if_neg e2, doF_getR (by omega) (by omega), if_neg e0, if_neg e1, doF_getR (by omega) (by omega), if_neg e0, if_neg e1, doF_getR (by omega) (by omega), if_neg e1, if_neg e2]
theorem plN_one (k : Nat) : plN ((k : Int) + 1) = k := plN_suc k
theorem stepL_one {n : Nat} {f g : List (List Int)} (k : Nat) (l : List Int) : stepL n f g ((k : Int) + 1) l = doF f g k l := by
  unfold stepL; rw [if_pos (by omega), plN_plc, plN_one]
/-! ### strands -/
/-! ### sums -/
end Go.Proofs.YtpdgpgbgakinlaaGreat

namespace Go.Proofs.YtpdgpgbgakinlaaGreat
set_option linter.unusedVariables false
set_option linter.unusedSimpArgs false
theorem wtS_cons (n : Nat) (f g M : List (List Int)) (m x : Int) (xs l : List Int) : wtS n f g M m (x :: xs) l = wtT M m x l (stepL n f g x l) + wtS n f g M m xs (stepL n f g x l) := rfl
theorem wtS_one (n : Nat) (f g M : List (List Int)) (m x : Int) (l : List Int) : wtS n f g M m [x] l = wtT M m x l (stepL n f g x l) := by simp [wtS]
theorem wtT_back (M : List (List Int)) (m : Int) {x : Int} (hx : x ≠ 0) (l r : List Int) : wtT M m x l r + wtT M m (-x) r l = m := by
  unfold wtT
  rw [plc_neg hx]
  by_cases q : 0 < x
  · rw [if_pos q, if_neg (by omega)]; omega
  · rw [if_neg q, if_pos (by omega)]; omega
theorem wtS_back {n : Nat} {f g : List (List Int)} (M : List (List Int)) (m : Int) (hn : 1 ≤ n) (hf : Sq n f) (hg : Sq n g) (hc : collOk n f g = true) {x : Int} {l : List Int} (hx : x ≠ 0) (hi : (plc x).toNat + 1 < l.length) (h : Less n l) : wtS n f g M m [x, -x] l = m := by
  rw [wtS_cons, wtS_one, step_back hn hf hg hc hx hi h]
  exact wtT_back M m hx _ _
theorem wtS_inv {n : Nat} {f g : List (List Int)} (M : List (List Int)) (m : Int) (hn : 1 ≤ n) (hf : Sq n f) (hg : Sq n g) (hc : collOk n f g = true) : ∀ (xs l : List Int), (∀ x ∈ xs, x ≠ 0 ∧ (plc x).toNat + 1 < l.length) → Less n l → cg m (wtS n f g M m (ivL xs) (actL n f g xs l) + wtS n f g M m xs l) 0 := by
  intro xs
  induction xs with
  | nil => intro l _ _; exact cg.of (by simp [ivL, wtS])
  | cons x xs ih =>
    intro l hx h
    have h0 := hx x (by simp)
    have hs := h.step hn hf hg hc x h0.2
    have hxs : ∀ y ∈ xs, y ≠ 0 ∧ (plc y).toNat + 1 < (stepL n f g x l).length := fun y hy => by rw [stepL_len]; exact hx y (by simp [hy])
    have e : actL n f g (x :: xs) l = actL n f g xs (stepL n f g x l) := rfl
    have h1 := ih _ hxs hs
    rw [ivL_cons, wtS_append, e, act_back hn hf hg hc xs _ hxs hs, wtS_one, step_back hn hf hg hc h0.1 h0.2 h, wtS_cons]
    have h2 := wtT_back M m h0.1 l (stepL n f g x l)
    have h3 := h1.add (cg.of (p := m) h2)
    refine (cg.of ?_).trans (h3.trans ⟨1, by omega⟩)
    omega
theorem wtS_redF {n : Nat} {f g : List (List Int)} (M : List (List Int)) (m : Int) (hn : 1 ≤ n) (hf : Sq n f) (hg : Sq n g) (hc : collOk n f g = true) {l : List Int} (h : Less n l) : ∀ (xs out : List Int), (∀ x ∈ xs, x ≠ 0 ∧ (plc x).toNat + 1 < l.length) → (∀ x ∈ out, x ≠ 0 ∧ (plc x).toNat + 1 < l.length) → cg m (wtS n f g M m (xs.foldl redF out) l) (wtS n f g M m (out ++ xs) l) := by
  intro xs
  induction xs with
  | nil => intro out _ _; rw [List.append_nil]; exact cg.refl _ _
  | cons x xs ih =>
    intro out hx ho
    have hx0 := hx x (by simp)
    have hxs : ∀ y ∈ xs, y ≠ 0 ∧ (plc y).toNat + 1 < l.length := fun y hy => hx y (by simp [hy])
    rw [List.foldl_cons]
    by_cases c : out.getLast? = some (-x)
    · have e : redF out x = out.dropLast := by unfold redF; rw [if_pos c]
      obtain ⟨o, rfl⟩ : ∃ o, out = o ++ [-x] := by
        rcases List.eq_nil_or_concat out with rfl | ⟨o, y, rfl⟩
        · simp at c
        · simp at c; subst c; exact ⟨o, by simp⟩
      have hoo : ∀ y ∈ o, y ≠ 0 ∧ (plc y).toNat + 1 < l.length := fun y hy => ho y (by simp [hy])
      rw [e, List.dropLast_concat]
      have hL := h.act hn hf hg hc o fun y hy => (hoo y hy).2
      have hll := actL_len n f g o l
      have hxn : -x ≠ 0 := by omega
      have hpn : (plc (-x)).toNat + 1 < (actL n f g o l).length := by rw [plc_neg hx0.1, hll]; exact hx0.2
      have eb := wtS_back M m hn hf hg hc hxn hpn hL
      have ea : actL n f g [-x, x] (actL n f g o l) = actL n f g o l := by
        have := step_back hn hf hg hc hxn hpn hL
        rw [Int.neg_neg] at this
        exact this
      rw [Int.neg_neg] at eb
      have e2 : o ++ [-x] ++ x :: xs = o ++ ([-x, x] ++ xs) := by simp
      have := ih o hxs hoo
      refine this.trans ?_
      rw [e2, wtS_append, wtS_append, wtS_append, eb, ea]
      exact ⟨-1, by omega⟩
    · have e : redF out x = out ++ [x] := by unfold redF; rw [if_neg c]
      rw [e]
      have := ih (out ++ [x]) hxs fun y hy => by
        rcases List.mem_append.1 hy with hy | hy
        · exact ho y hy
        · simp at hy; rw [hy]; exact hx0
      simpa using this
theorem wtS_red {n : Nat} {f g : List (List Int)} (M : List (List Int)) (m : Int) (hn : 1 ≤ n) (hf : Sq n f) (hg : Sq n g) (hc : collOk n f g = true) {xs l : List Int} (h : Less n l) (hx : ∀ x ∈ xs, x ≠ 0 ∧ (plc x).toNat + 1 < l.length) : cg m (wtS n f g M m (redL xs) l) (wtS n f g M m xs l) := by
  have := wtS_redF M m hn hf hg hc h xs [] hx (fun x hx => by simp at hx)
  simpa [redL] using this
theorem getD_snocW {l : List Int} {i : Nat} (z : Int) (h : i < l.length) : (l ++ [z]).getD i 0 = l.getD i 0 := by
  rw [List.getD_eq_getElem?_getD, List.getElem?_append_left h, ← List.getD_eq_getElem?_getD]
theorem wtS_snoc (n : Nat) (f g M : List (List Int)) (m z : Int) : ∀ (xs l : List Int), (∀ x ∈ xs, (plc x).toNat + 1 < l.length) → wtS n f g M m xs (l ++ [z]) = wtS n f g M m xs l := by
  intro xs
  induction xs with
  | nil => intro l _; rfl
  | cons x xs ih =>
    intro l hx
    have h0 := hx x (by simp)
    have e : stepL n f g x (l ++ [z]) = stepL n f g x l ++ [z] := act_snoc n f g z [x] l (fun y hy => by simp at hy; rw [hy]; exact h0)
    rw [wtS_cons, wtS_cons, e, ih _ fun y hy => by rw [stepL_len]; exact hx y (by simp [hy])]
    congr 1
    have hr : (plc x).toNat + 1 < (stepL n f g x l).length := by rw [stepL_len]; exact h0
    unfold wtT
    rw [getD_snocW z (show (plc x).toNat < l.length by omega), getD_snocW z h0, getD_snocW z (show (plc x).toNat < (stepL n f g x l).length by omega), getD_snocW z hr]
theorem wtS_app (n : Nat) (f g M : List (List Int)) (m : Int) {xs : List Int} : ∀ (r l : List Int), (∀ x ∈ xs, (plc x).toNat + 1 < l.length) → wtS n f g M m xs (l ++ r) = wtS n f g M m xs l := by
  intro r
  induction r with
  | nil => intro l _; rw [List.append_nil]
  | cons z r ih =>
    intro l hx
    have e : l ++ z :: r = (l ++ [z]) ++ r := by simp
    rw [e, ih (l ++ [z]) (fun x h => by have := hx x h; simp; omega), wtS_snoc n f g M m z xs l hx]
theorem wtS_ybe {n : Nat} {f g M : List (List Int)} {m : Int} (hm : 0 < m) (hn : 1 ≤ n) (hw : wtFlt n f g M m = []) {l : List Int} (h3 : 3 ≤ l.length) (h : Less n l) : cg m (wtS n f g M m [1, 2, 1] l) (wtS n f g M m [2, 1, 2] l) := by
  have hlen : (l.take 3).length = 3 := by rw [List.length_take]; omega
  have hle : Less n (l.take 3) := fun i hi => by
    rw [hlen] at hi
    obtain ⟨k, hk, e⟩ := h i (by omega)
    exact ⟨k, hk, by rw [← e, List.getD_eq_getElem?_getD, List.getElem?_take, if_pos hi, ← List.getD_eq_getElem?_getD]⟩
  have hnum := numL_lt hn hle
  rw [hlen] at hnum
  have hdig := digL_num hn hlen hle
  have e : l = l.take 3 ++ l.drop 3 := (List.take_append_drop 3 l).symm
  have hp : ∀ x : Int, x = 1 ∨ x = 2 → (plc x).toNat + 1 < 3 := by rintro x (rfl | rfl) <;> decide
  have h121 : ∀ x ∈ [(1 : Int), 2, 1], (plc x).toNat + 1 < (l.take 3).length := fun x hx => by rw [hlen]; simp at hx; exact hp x (by omega)
  have h212 : ∀ x ∈ [(2 : Int), 1, 2], (plc x).toNat + 1 < (l.take 3).length := fun x hx => by rw [hlen]; simp at hx; exact hp x (by omega)
  have e1 : wtS n f g M m [1, 2, 1] l = wtS n f g M m [1, 2, 1] (l.take 3) := by
    conv => lhs; rw [e]
    exact wtS_app n f g M m _ _ h121
  have e2 : wtS n f g M m [2, 1, 2] l = wtS n f g M m [2, 1, 2] (l.take 3) := by
    conv => lhs; rw [e]
    exact wtS_app n f g M m _ _ h212
  rw [e1, e2, ← hdig]
  unfold wtFlt at hw
  have hb : wtBad n f g M m (digL n 3 (numL n (l.take 3))) = false := by
    cases c : wtBad n f g M m (digL n 3 (numL n (l.take 3))) with
    | false => rfl
    | true =>
      exfalso
      unfold fltL at hw
      cases q : (List.range (n * n * n)).find? (fun N => wtBad n f g M m (digL n 3 N)) with
      | none =>
        rw [List.find?_eq_none] at q
        exact q (numL n (l.take 3)) (List.mem_range.2 (by have e3 : n ^ 3 = n * n * n := (by simp [Nat.pow_succ]); rw [← e3]; exact hnum)) c
      | some N =>
        rw [q] at hw
        have := congrArg List.length hw
        rw [digL_len] at this; simp at this
  unfold wtBad wtF at hb
  have he : wtS n f g M m [1, 2, 1] (digL n 3 (numL n (l.take 3))) % m = wtS n f g M m [2, 1, 2] (digL n 3 (numL n (l.take 3))) % m := by simpa using hb
  exact (cg.mod m _).symm.trans ((cg.of he).trans (cg.mod m _))
theorem act_ybe {n : Nat} {f g : List (List Int)} (h : YbE n f g) {l : List Int} (h3 : 3 ≤ l.length) (hl : Less n l) : actL n f g [1, 2, 1] l = actL n f g [2, 1, 2] l := by
  have e1 : ∀ l, stepL n f g 1 l = doF f g 0 l := fun l => stepL_one 0 l
  have e2 : ∀ l, stepL n f g 2 l = doF f g 1 l := fun l => stepL_one 1 l
  show stepL n f g 1 (stepL n f g 2 (stepL n f g 1 l)) = stepL n f g 2 (stepL n f g 1 (stepL n f g 2 l))
  rw [e1, e2, e1, e2, e1, e2]
  exact doF_near h (k := 0) (by omega) hl
theorem wtS_mid {n : Nat} {f g M : List (List Int)} {m : Int} (hm : 0 < m) (hn : 1 ≤ n) (hf : Sq n f) (hg : Sq n g) (hc : collOk n f g = true) (hy : YbE n f g) (hw : wtFlt n f g M m = []) {l : List Int} (h3 : 3 ≤ l.length) (h : Less n l) {xs : List Int} (hx : ∀ x ∈ xs, (plc x).toNat + 1 < l.length) (ys : List Int) :
    cg m (wtS n f g M m (xs ++ ([1, 2, 1] ++ ys)) l) (wtS n f g M m (xs ++ ([2, 1, 2] ++ ys)) l) := by
  have hL := h.act hn hf hg hc xs hx
  have hll := actL_len n f g xs l
  rw [wtS_append, wtS_append, wtS_append, wtS_append, act_ybe hy (by omega) hL]
  exact (cg.refl _ _).add ((wtS_ybe hm hn hw (by omega) hL).add (cg.refl _ _))
theorem wtF_cg {n : Nat} {f g M : List (List Int)} {m : Int} (hm : 0 < m) {xs ys l l' : List Int} (h : cg m (wtS n f g M m xs l) (wtS n f g M m ys l')) : wtF n f g M m xs l = wtF n f g M m ys l' := by
  unfold wtF
  have hmod : ∀ x : Int, 0 ≤ x % m ∧ x % m < m := fun x => ⟨Int.emod_nonneg _ (by omega), Int.emod_lt_of_pos _ hm⟩
  exact cg.eq ((cg.mod m _).trans (h.trans (cg.mod m _).symm)) (hmod _).1 (hmod _).2 (hmod _).1 (hmod _).2
end Go.Proofs.YtpdgpgbgakinlaaGreat

namespace Go.Proofs.YtpdgpgbgakinlaaGreat
set_option maxRecDepth 100000
set_option linter.unusedVariables false
set_option linter.unusedSimpArgs false
/-! ### a braid and its inverse -/
end Go.Proofs.YtpdgpgbgakinlaaGreat

namespace Go.Proofs.YtpdgpgbgakinlaaGreat
set_option linter.unusedVariables false
set_option linter.unusedSimpArgs false
theorem bwt_facts (f g : List (List Int)) (m : Int) (M : List (List Int)) (s : Int) (xs l : List Int) : (∃ k, wotF f g m M s xs l = (0, k) ∧ (k = 1 ∨ k = 2)) ∨
    ∃ N : Nat, s = N ∧ isSol f g = true ∧ isBr N xs = true ∧ isMx f.length m M = true ∧ l.length = N ∧ Less f.length l ∧ wotF f g m M s xs l = (wtF f.length f g M m xs l, 0) := by
  unfold wotF
  cases h1 : isSol f g with
  | false => exact .inl ⟨1, by simp, .inl rfl⟩
  | true =>
    cases h2 : isBr s xs with
    | false => exact .inl ⟨1, by simp, .inl rfl⟩
    | true =>
      cases h3 : isMx f.length m M with
      | false => exact .inl ⟨2, by simp, .inr rfl⟩
      | true =>
        by_cases h4 : (l.length : Int) = s
        · cases h5 : l.all (rngB 0 ((f.length : Int) - 1)) with
          | false => exact .inl ⟨2, by simp [h4], .inr rfl⟩
          | true =>
            refine .inr ⟨l.length, h4.symm, rfl, by rw [h4]; exact h2, rfl, rfl, fun i hi => ?_, by simp [h4]⟩
            rw [List.all_eq_true] at h5
            have := h5 l[i] (List.getElem_mem hi)
            unfold rngB at this
            rw [Bool.and_eq_true] at this
            have h6 := of_decide_eq_true this.1
            have h7 := of_decide_eq_true this.2
            refine ⟨(l[i]).toNat, by omega, ?_⟩
            rw [List.getD_eq_getElem?_getD, List.getElem?_eq_getElem hi, Option.getD_some]; omega
        · exact .inl ⟨2, by simp [h4], .inr rfl⟩
theorem wot_ok {f g : List (List Int)} {m : Int} {M : List (List Int)} {N : Nat} {xs l : List Int} (h1 : isSol f g = true) (h2 : isBr N xs = true) (h3 : isMx f.length m M = true) (h4 : l.length = N) (h5 : Less f.length l) : wotF f g m M N xs l = (wtF f.length f g M m xs l, 0) := by
  rcases bwt_facts f g m M N xs l with ⟨k, h, hk⟩ | ⟨N', e, _, _, _, _, _, h⟩
  · unfold wotF at h
    have h6 : l.all (rngB 0 ((f.length : Int) - 1)) = true := by
      rw [List.all_eq_true]
      intro x hx
      obtain ⟨i, hi, rfl⟩ := List.getElem_of_mem hx
      obtain ⟨k, hk, e⟩ := h5 i hi
      rw [List.getD_eq_getElem?_getD, List.getElem?_eq_getElem hi, Option.getD_some] at e
      unfold rngB; rw [e]; simp; omega
    rw [if_pos h1, if_pos h2, if_pos h3, if_pos (by omega), if_pos h6] at h
    have := congrArg Prod.snd h
    simp at this; omega
  · exact h
theorem bwt_laws {f g : List (List Int)} {m : Int} {M : List (List Int)} {N : Nat} {xs l : List Int} (h1 : isSol f g = true) (h2 : isBr N xs = true) (h3 : isMx f.length m M = true) (h4 : l.length = N) (h5 : Less f.length l) :
    wtF f.length f g M m (redL xs) l = wtF f.length f g M m xs l ∧ (wtF f.length f g M m (ivL xs) (actL f.length f g xs l) + wtF f.length f g M m xs l) % m = 0 ∧ (actL f.length f g xs l).length = N ∧ Less f.length (actL f.length f g xs l) := by
  obtain ⟨n1, _, sf, sg⟩ := isSol_sq h1
  have hc := isSol_coll h1
  have hm := (isMx_sq h3).1
  have hx : ∀ x ∈ xs, x ≠ 0 ∧ (plc x).toNat + 1 < l.length := fun x hx => by
    have := (isBr_let h2).2.2 x hx
    refine ⟨this.1, ?_⟩
    rw [h4]; unfold plc; split <;> omega
  refine ⟨wtF_cg (by omega) (wtS_red M m n1 sf sg hc h5 hx), ?_, by rw [actL_len, h4], h5.act n1 sf sg hc xs fun x q => (hx x q).2⟩
  have hi := wtS_inv M m n1 sf sg hc xs l hx h5
  unfold wtF
  obtain ⟨k, hk⟩ := hi
  rw [← Int.add_emod, hk]
  simp
theorem bwt_mid {f g : List (List Int)} {m : Int} {M : List (List Int)} {N : Nat} {xs l : List Int} (h1 : isSol f g = true) (h2 : isBr N xs = true) (h3 : isMx f.length m M = true) (h4 : l.length = N) (h5 : Less f.length l) (hN : 3 ≤ N) (hw : wtFlt f.length f g M m = []) (q : Nat) :
    wtF f.length f g M m (xs.take q ++ ([1, 2, 1] ++ xs.drop q)) l = wtF f.length f g M m (xs.take q ++ ([2, 1, 2] ++ xs.drop q)) l := by
  obtain ⟨n1, _, sf, sg⟩ := isSol_sq h1
  have hc := isSol_coll h1
  have hm := (isMx_sq h3).1
  have hx : ∀ x ∈ xs, x ≠ 0 ∧ (plc x).toNat + 1 < l.length := fun x hx => by
    have := (isBr_let h2).2.2 x hx
    refine ⟨this.1, ?_⟩
    rw [h4]; unfold plc; split <;> omega
  have hy : YbE f.length f g := fun x y z hx hy hz => by
    have h := h1
    unfold isSol at h
    rw [Bool.and_eq_true, Bool.and_eq_true] at h
    exact eqOk_at h.2.2 hx hy hz
  exact wtF_cg (by omega) (wtS_mid (by omega) n1 sf sg hc hy hw (by omega) h5 (fun x q => (hx x (List.mem_of_mem_take q)).2) _)
end Go.Proofs.YtpdgpgbgakinlaaGreat

namespace Go.Proofs.YtpdgpgbgakinlaaGreat
set_option maxRecDepth 100000
set_option linter.unusedVariables false
set_option linter.unusedSimpArgs false
open Go.RowKit
theorem TbS.one {w : World} {b : Nat} (hb : b = w.heap.size) {a : Option Addr} {n c : Nat} {t : List (List Int)} (h : Tbl w a n t) (hn : n ≤ 9223372036854775807) (ty : TypeId) : TbS (w.alloc (.cells #[.slice a n c] ty)) (some ⟨b, 0, none⟩) 1 [t] := by
  refine ⟨rfl, fun i hi => ?_⟩
  obtain rfl : i = 0 := by omega
  exact ⟨b, 0, a, n, c, rfl, by simp; omega, (Loc.new w hb _ _).cell 0 rfl, h.alloc _, hn⟩
theorem LstQ.fresh (w : World) {b : Nat} (hb : b = w.heap.size) (ty : TypeId) : LstQ (w.alloc (.cells #[] ty)) (some ⟨b, 0, none⟩) 0 [] [] := ⟨HdR.nil _, rfl, fun i h => absurd h (by omega)⟩
theorem OwnRk.fresh (w : World) {b : Nat} (hb : b = w.heap.size) : OwnRk (w.alloc (.cells #[] 45)) w.heap.size (some ⟨b, 0, none⟩) 0 0 [] [] :=
  ⟨rfl, rfl, ownsRowRk_mk rfl (by omega) (Loc.new w hb _ _) (Nat.le_refl _) (by unfold maxLen; omega) rfl rfl, fun i h => absurd h (by omega), fun i h => absurd h (by omega), fun i j h => absurd h (by omega)⟩
end Go.Proofs.YtpdgpgbgakinlaaGreat

namespace Go.Proofs.YtpdgpgbgakinlaaGreat
set_option maxRecDepth 100000
set_option linter.unusedVariables false
set_option linter.unusedSimpArgs false
theorem Cmp.le_lt {α : Type} {c : α → α → Int} (h : Cmp c) {x y z : α} (h1 : ¬ c y x < 0) (h2 : c y z < 0) : c x z < 0 := by
  by_cases e : c x y = 0
  · rw [(h.eq _ _).1 e]; exact h2
  · exact h.trans x y z (by have := h.anti x y; omega) h2
end Go.Proofs.YtpdgpgbgakinlaaGreat

namespace Go.Proofs.YtpdgpgbgakinlaaGreat
set_option maxRecDepth 100000
set_option linter.unusedVariables false
set_option linter.unusedSimpArgs false
structure Wrk {α γ : Type} (G : List γ) (act : γ → α → α) (cp : γ → γ → γ) (S : α → Prop) : Prop where
  nd : G.Nodup
  st : ∀ t, S t → ∀ p, p ∈ G → S (act p t)
  cm : ∀ p q, p ∈ G → q ∈ G → cp p q ∈ G
  ac : ∀ p q, p ∈ G → q ∈ G → ∀ t, S t → act q (act p t) = act (cp p q) t
  un : ∃ e, e ∈ G ∧ ∀ t, S t → act e t = t
  bk : ∀ p, p ∈ G → ∃ r, r ∈ G ∧ ∀ t, S t → act r (act p t) = t
  ij : ∀ p p' q, p ∈ G → p' ∈ G → q ∈ G → cp p q = cp p' q → p = p'
section
variable {α γ : Type} {G : List γ} {act : γ → α → α} {cp : γ → γ → γ} {S : α → Prop} {c : α → α → Int}
def minL (c : α → α → Int) (b : α) (l : List α) : α := l.foldl (fun b x => if c x b < 0 then x else b) b
theorem minL_spec (hc : Cmp c) : ∀ (l : List α) (b : α), (minL c b l = b ∨ minL c b l ∈ l) ∧ ¬ c b (minL c b l) < 0 ∧ ∀ x, x ∈ l → ¬ c x (minL c b l) < 0 := by
  intro l
  induction l with
  | nil =>
    intro b
    refine ⟨.inl rfl, ?_, fun x h => by simp at h⟩
    show ¬ c b b < 0
    rw [hc.refl]; omega
  | cons x l ih =>
    intro b
    have e : minL c b (x :: l) = minL c (if c x b < 0 then x else b) l := rfl
    rw [e]
    by_cases h : c x b < 0
    · rw [if_pos h]
      obtain ⟨h1, h2, h3⟩ := ih x
      refine ⟨?_, ?_, ?_⟩
      · rcases h1 with h1 | h1
        · exact .inr (by rw [h1]; simp)
        · exact .inr (by simp [h1])
      · intro h4
        exact h2 (hc.trans _ _ _ h h4)
      · intro y hy
        rcases List.mem_cons.1 hy with r | r
        · rw [r]; exact h2
        · exact h3 y r
    · rw [if_neg h]
      obtain ⟨h1, h2, h3⟩ := ih b
      refine ⟨?_, h2, ?_⟩
      · rcases h1 with h1 | h1
        · exact .inl h1
        · exact .inr (by simp [h1])
      · intro y hy
        rcases List.mem_cons.1 hy with r | r
        · rw [r]; intro h4
          exact h2 (hc.le_lt h h4)
        · exact h3 y r
def lfm (c : α → α → Int) (act : γ → α → α) (G : List γ) (t : α) : α := minL c t (G.map fun p => act p t)
theorem lfm_at (hc : Cmp c) (hw : Wrk G act cp S) {t : α} (h : S t) : ∃ p, p ∈ G ∧ lfm c act G t = act p t := by
  rcases (minL_spec hc (G.map fun p => act p t) t).1 with e | e
  · obtain ⟨u, hu, hu2⟩ := hw.un
    exact ⟨u, hu, by unfold lfm; rw [e, hu2 t h]⟩
  · obtain ⟨p, hp, e⟩ := List.mem_map.1 e
    exact ⟨p, hp, e.symm⟩
theorem lfm_le (hc : Cmp c) {t : α} {p : γ} (hp : p ∈ G) : ¬ c (act p t) (lfm c act G t) < 0 :=
  (minL_spec hc (G.map fun p => act p t) t).2.2 _ (List.mem_map.2 ⟨p, hp, rfl⟩)
theorem lfm_act (hc : Cmp c) (hw : Wrk G act cp S) {t : α} (h : S t) {p : γ} (hp : p ∈ G) : lfm c act G (act p t) = lfm c act G t := by
  obtain ⟨q, hq, e1⟩ := lfm_at hc hw (hw.st t h p hp)
  obtain ⟨r, hr, e2⟩ := lfm_at hc hw h
  have a1 : ¬ c (lfm c act G (act p t)) (lfm c act G t) < 0 := by
    rw [e1, hw.ac p q hp hq t h]
    exact lfm_le hc (hw.cm p q hp hq)
  have a2 : ¬ c (lfm c act G t) (lfm c act G (act p t)) < 0 := by
    obtain ⟨i, hi, hb⟩ := hw.bk p hp
    have : act r t = act (cp i r) (act p t) := by
      rw [← hw.ac i r hi hr _ (hw.st t h p hp), hb t h]
    rw [e2, this]
    exact lfm_le hc (hw.cm i r hi hr)
  have := hc.anti (lfm c act G (act p t)) (lfm c act G t)
  exact (hc.eq _ _).1 (by omega)
theorem lfm_lfm (hc : Cmp c) (hw : Wrk G act cp S) {t : α} (h : S t) : lfm c act G (lfm c act G t) = lfm c act G t := by
  obtain ⟨p, hp, e⟩ := lfm_at hc hw h
  conv => lhs; rw [e]
  exact lfm_act hc hw h hp
theorem lfm_one (hc : Cmp c) (hw : Wrk G act cp S) {t s : α} (h : S t) (hs : S s) (e : lfm c act G t = lfm c act G s) : ∃ p, p ∈ G ∧ act p t = s := by
  obtain ⟨p, hp, e1⟩ := lfm_at hc hw h
  obtain ⟨q, hq, e2⟩ := lfm_at hc hw hs
  obtain ⟨r, hr, hb⟩ := hw.bk q hq
  refine ⟨cp p r, hw.cm p r hp hr, ?_⟩
  rw [← hw.ac p r hp hr t h, ← e1, e, e2, hb s hs]
/-! ### counting -/
theorem sum_zero {β : Type} : ∀ R : List β, (R.map fun _ => 0).sum = 0 := by
  intro R
  induction R with
  | nil => rfl
  | cons a R ih => rw [List.map_cons, List.sum_cons, ih]
theorem sub_perm {β : Type} : ∀ {l m : List β}, l.Nodup → (∀ x, x ∈ l → x ∈ m) → m.length ≤ l.length → l.Perm m := by
  intro l
  induction l with
  | nil => intro m _ _ h; rw [List.eq_nil_of_length_eq_zero (Nat.le_zero.1 h)]
  | cons a l ih =>
    intro m hn hs hl
    rw [List.nodup_cons] at hn
    obtain ⟨s, t, rfl⟩ := List.append_of_mem (hs a (by simp))
    refine List.Perm.trans ?_ List.perm_middle.symm
    refine List.Perm.cons a (ih hn.2 (fun x hx => ?_) (by simp at hl ⊢; omega))
    have := hs x (by simp [hx])
    rw [List.mem_append, List.mem_cons] at this
    rw [List.mem_append]
    rcases this with h | h | h
    · exact .inl h
    · exact absurd (h ▸ hx) hn.1
    · exact .inr h
theorem count_one {β : Type} [DecidableEq β] : ∀ (R : List β) (b : β), R.Nodup → b ∈ R → (R.map fun r => if b = r then 1 else 0).sum = 1 := by
  intro R
  induction R with
  | nil => intro b _ h; simp at h
  | cons a R ih =>
    intro b hn hb
    rw [List.nodup_cons] at hn
    rw [List.map_cons, List.sum_cons]
    by_cases e : b = a
    · rw [if_pos e]
      have : (R.map fun r => if b = r then 1 else 0).sum = 0 := by
        have hz : ∀ r ∈ R, (if b = r then 1 else 0) = 0 := fun r hr => if_neg (fun e2 => hn.1 (by rw [← e, e2]; exact hr))
        rw [List.map_congr_left hz, sum_zero]
      omega
    · rw [if_neg e, ih b hn.2 (by rcases List.mem_cons.1 hb with r | r; exact absurd r e; exact r)]
theorem sum_add {β : Type} (f g : β → Nat) : ∀ R : List β, (R.map fun r => f r + g r).sum = (R.map f).sum + (R.map g).sum := by
  intro R
  induction R with
  | nil => rfl
  | cons a R ih => simp only [List.map_cons, List.sum_cons, ih]; omega
theorem part_len {β : Type} [DecidableEq β] (f : α → β) {R : List β} (hR : R.Nodup) : ∀ l : List α, (∀ x, x ∈ l → f x ∈ R) → (R.map fun r => (l.filter fun x => decide (f x = r)).length).sum = l.length := by
  intro l
  induction l with
  | nil =>
    intro _
    simp only [List.filter_nil, List.length_nil]
    exact sum_zero R
  | cons x l ih =>
    intro h
    have e : ∀ r, ((x :: l).filter fun y => decide (f y = r)).length = (if f x = r then 1 else 0) + (l.filter fun y => decide (f y = r)).length := fun r => by
      rw [List.filter_cons]
      by_cases e : f x = r
      · rw [if_pos (by simpa using e), if_pos e, List.length_cons]; omega
      · rw [if_neg (by simpa using e), if_neg e]; omega
    rw [List.map_congr_left (fun r _ => e r), sum_add, count_one R (f x) hR (h x (by simp)), ih fun y hy => h y (by simp [hy]), List.length_cons]
    omega
theorem sum_const (k : Nat) : ∀ (l : List α) (f : α → Nat), (∀ x, x ∈ l → f x = k) → (l.map f).sum = l.length * k := by
  intro l
  induction l with
  | nil => intro f _; simp
  | cons x l ih =>
    intro f h
    rw [List.map_cons, List.sum_cons, ih f fun y hy => h y (by simp [hy]), h x (by simp), List.length_cons, Nat.succ_mul]
    omega
variable [DecidableEq α]
def kpN (act : γ → α → α) (G : List γ) (t : α) : Nat := (G.filter fun p => decide (act p t = t)).length
theorem filt_perm {l m : List γ} (h : l.Perm m) (P : γ → Bool) : (l.filter P).length = (m.filter P).length := (h.filter P).length_eq
theorem kp_at (hw : Wrk G act cp S) {t : α} (h : S t) {q : γ} (hq : q ∈ G) : (G.filter fun p => decide (act p t = act q t)).length = kpN act G t := by
  have hp : (G.map fun p => cp p q).Perm G := by
    have hnd : (G.map fun p => cp p q).Nodup := by
      rw [List.nodup_iff_pairwise_ne] at *
      rw [List.pairwise_map]
      have := hw.nd
      rw [List.nodup_iff_pairwise_ne] at this
      refine List.Pairwise.imp_of_mem ?_ this
      intro a b ha hb hne e
      exact hne (hw.ij a b q ha hb hq e)
    refine sub_perm hnd (fun x hx => ?_) (by simp)
    obtain ⟨p, hp, rfl⟩ := List.mem_map.1 hx
    exact hw.cm p q hp hq
  rw [← filt_perm hp, List.filter_map, List.length_map]
  unfold kpN
  congr 1
  refine List.filter_congr fun p hp => ?_
  show decide (act (cp p q) t = act q t) = decide (act p t = t)
  rw [← hw.ac p q hp hq t h]
  apply decide_eq_decide.2
  constructor
  · intro e
    obtain ⟨r, hr, hb⟩ := hw.bk q hq
    have := congrArg (act r) e
    rwa [hb _ (hw.st t h p hp), hb t h] at this
  · intro e; rw [e]
theorem kp_pos (hw : Wrk G act cp S) {t : α} (h : S t) : 1 ≤ kpN act G t := by
  obtain ⟨e, he, hu⟩ := hw.un
  have : e ∈ G.filter fun p => decide (act p t = t) := List.mem_filter.2 ⟨he, by simpa using hu t h⟩
  exact List.length_pos_of_mem this
theorem orbits (hc : Cmp c) (hw : Wrk G act cp S) {T : List α} (hT : T.Nodup) (hs : ∀ t, t ∈ T → S t) (hcl : ∀ t, t ∈ T → ∀ p, p ∈ G → act p t ∈ T) :
    ((T.filter fun t => decide (t = lfm c act G t)).map fun t => G.length / kpN act G t).sum = T.length := by
  have hR : (T.filter fun t => decide (t = lfm c act G t)).Nodup := hT.filter _
  have hin : ∀ t, t ∈ T → lfm c act G t ∈ T.filter fun t => decide (t = lfm c act G t) := fun t ht => by
    obtain ⟨p, hp, e⟩ := lfm_at hc hw (hs t ht)
    refine List.mem_filter.2 ⟨by rw [e]; exact hcl t ht p hp, ?_⟩
    rw [lfm_lfm hc hw (hs t ht)]; simp
  rw [← part_len (lfm c act G) hR T hin]
  congr 1
  refine List.map_congr_left fun r hr => ?_
  obtain ⟨hrT, hre⟩ := List.mem_filter.1 hr
  have hre : r = lfm c act G r := by simpa using hre
  have hsr := hs r hrT
  have hO : (T.filter fun t => decide (lfm c act G t = r)).Nodup := hT.filter _
  have h1 := part_len (fun p => act p r) hO G (fun p hp => List.mem_filter.2 ⟨hcl r hrT p hp, by
    have := lfm_act hc hw hsr hp
    simp [this, ← hre]⟩)
  rw [sum_const (kpN act G r)] at h1
  · rw [← h1]
    exact Nat.mul_div_cancel _ (kp_pos hw hsr)
  · intro t ht
    obtain ⟨htT, hte⟩ := List.mem_filter.1 ht
    have hte : lfm c act G t = r := by simpa using hte
    obtain ⟨q, hq, e⟩ := lfm_one hc hw hsr (hs t htT) (by rw [← hre, hte])
    rw [← e]
    exact kp_at hw hsr hq
end
end Go.Proofs.YtpdgpgbgakinlaaGreat
