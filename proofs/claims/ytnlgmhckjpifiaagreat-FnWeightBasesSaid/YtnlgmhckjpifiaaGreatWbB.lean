/-
  What both sides of WeightBasis compute, in plain lists.
  No condition.
-/
import Derived.Test.YtnlgmhckjpifiaaGreatWbW
import Derived.Test.YtnlgmhckjpifiaaGreatWbK
namespace Go.Proofs.YtnlgmhckjpifiaaGreat
set_option maxRecDepth 100000
set_option linter.unusedVariables false
set_option linter.unusedSimpArgs false

def rowsW (f g : List (List Int)) (n : Nat) (p : Int) : List (List Int) := (List.range (n * n * n)).map (rowW f g n p)
def wbL (f g : List (List Int)) (n : Nat) (p : Int) : List (List Int) := echL p (invF p) (n * n) (kerL p (n * n) (echL p (invF p) (n * n) (rowsW f g n p)) (n * n))
def wbF (f g : List (List Int)) (p : Int) : List (List Int) × Int :=
  if isSol f g = true then (if isPr p then (if f.length ≤ 8 then (wbL f g f.length p, 0) else ([], 3)) else ([], 2)) else ([], 1)
theorem wbF_1 {f g : List (List Int)} {p : Int} (h : isSol f g = false) : wbF f g p = ([], 1) := by unfold wbF; rw [h]; rfl
theorem wbF_2 {f g : List (List Int)} {p : Int} (h : isSol f g = true) (h1 : ¬ isPr p) : wbF f g p = ([], 2) := by unfold wbF; rw [if_pos h, if_neg h1]
theorem wbF_3 {f g : List (List Int)} {p : Int} (h : isSol f g = true) (h1 : isPr p) (h2 : ¬ f.length ≤ 8) : wbF f g p = ([], 3) := by unfold wbF; rw [if_pos h, if_pos h1, if_neg h2]
theorem wbF_0 {f g : List (List Int)} {p : Int} (h : isSol f g = true) (h1 : isPr p) (h2 : f.length ≤ 8) : wbF f g p = (wbL f g f.length p, 0) := by unfold wbF; rw [if_pos h, if_pos h1, if_pos h2]
theorem rep_vecW {p : Int} {N : Nat} (hp : 0 < p) : Vec p N (List.replicate N 0) := ⟨by simp, fun i hi => by
  have : gv (List.replicate N 0) i = 0 := by unfold gv; simp [List.getD_eq_getElem?_getD, hi]
  rw [this]; omega⟩
theorem rowW_one {f g : List (List Int)} {n : Nat} {p : Int} (hn : 1 ≤ n) (hf : Sq n f) (hg : Sq n g) (hp : 0 < p) (m : Nat) : CpI n p 3 (cpF f g n p 1 [0, 1, 0] (digL n 3 m, List.replicate (n * n) 0)) :=
  CpI.fold ⟨digL_len n 3 m, digL_less n 3 m hn, rep_vecW hp⟩ hf hg hp (fun k hk => by simp at hk; omega)
theorem rowW_two {f g : List (List Int)} {n : Nat} {p : Int} (hn : 1 ≤ n) (hf : Sq n f) (hg : Sq n g) (hp : 0 < p) (m : Nat) : CpI n p 3 (digL n 3 m, (cpF f g n p 1 [0, 1, 0] (digL n 3 m, List.replicate (n * n) 0)).2) :=
  ⟨digL_len n 3 m, digL_less n 3 m hn, (rowW_one hn hf hg hp m).vec⟩
theorem rowW_vec {f g : List (List Int)} {n : Nat} {p : Int} (hn : 1 ≤ n) (hf : Sq n f) (hg : Sq n g) (hp : 0 < p) (m : Nat) : Vec p (n * n) (rowW f g n p m) :=
  ((rowW_two hn hf hg hp m).fold hf hg hp (t := p - 1) (ks := [1, 0, 1]) (fun k hk => by simp at hk; omega)).vec
theorem rowsW_vec {f g : List (List Int)} {n : Nat} {p : Int} (hn : 1 ≤ n) (hf : Sq n f) (hg : Sq n g) (hp : 0 < p) : ∀ r, r ∈ rowsW f g n p → Vec p (n * n) r := by
  intro r hr
  obtain ⟨m, _, rfl⟩ := List.mem_map.1 hr
  exact rowW_vec hn hf hg hp m
theorem rowsW_take {f g : List (List Int)} {n : Nat} {p : Int} {m : Nat} (h : m < n * n * n) : (rowsW f g n p).take (m + 1) = (rowsW f g n p).take m ++ [rowW f g n p m] := by
  have hx : m < (rowsW f g n p).length := by simpa [rowsW] using h
  rw [List.take_succ_eq_append_getElem hx]
  simp [rowsW]
theorem ech_rdc {p : Int} {N : Nat} {rows : List (List Int)} (hp : isPr p) (hr : ∀ r, r ∈ rows → Vec p N r) : ∀ r, r ∈ echL p (invF p) N rows → Vec p N r ∧ ldN r < N := by
  have p2 : 2 ≤ p ∧ p ≤ 7 := by unfold isPr at hp; omega
  have h := (ech_ok (by omega) (fun a h0 h1 => (invF_ok hp a h0 h1).1) hr).1
  exact fun r q => ⟨h.vec r q, h.lt r q⟩
theorem echS_len (p : Int) (inv : Int → Int) (N : Nat) (s : List (List Int) × List (List Int)) (k : Nat) : (echS p inv N s k).1.length ≤ s.1.length + 1 := by
  unfold echS
  by_cases c : fndL k s.2 = s.2.length
  · rw [if_pos c]; omega
  · rw [if_neg c]; simp
theorem ech_len (p : Int) (inv : Int → Int) (N : Nat) (rows : List (List Int)) : (echL p inv N rows).length ≤ N := by
  have h : ∀ k, (echK p inv N rows k).1.length ≤ k := by
    intro k
    induction k with
    | zero => exact Nat.le_refl _
    | succ k ih => rw [echK_succ]; have := echS_len p inv N (echK p inv N rows k) k; omega
  exact h N
theorem ker_len (p : Int) (N : Nat) (R : List (List Int)) : ∀ k, (kerL p N R k).length ≤ k := by
  intro k
  induction k with
  | zero => exact Nat.le_refl _
  | succ k ih =>
    cases c : pvK R R.length k with
    | true => rw [kerL_skip c]; omega
    | false => rw [kerL_do c]; simp; omega
end Go.Proofs.YtnlgmhckjpifiaaGreat
