/-
  Tuples by their numbers, and the first number with a property, in plain lists.
  No condition.
-/
import Derived.Test.YtgnaeeifnhgobaaActL
namespace Go.Proofs.Ytgnaeeifnhgobaa
set_option linter.unusedVariables false
set_option linter.unusedSimpArgs false

/-- the k digits of N to the base n, the greatest first -/
def digL (n k N : Nat) : List Int := (List.range k).map fun i => ((N / n ^ (k - 1 - i) % n : Nat) : Int)
/-- as they are filled in from behind: j of them -/
def digP (n k N j : Nat) : List Int := (List.range k).map fun i => if k ≤ i + j then ((N / n ^ (k - 1 - i) % n : Nat) : Int) else 0
theorem digL_len (n k N : Nat) : (digL n k N).length = k := by simp [digL]
theorem digP_len (n k N j : Nat) : (digP n k N j).length = k := by simp [digP]
theorem digP_zero (n k N : Nat) : digP n k N 0 = List.replicate k 0 := by
  apply List.ext_getElem
  · simp [digP]
  · intro i h1 h2
    have hi : i < k := by simpa [digP] using h1
    simp [digP]; omega
theorem digP_full (n k N : Nat) : digP n k N k = digL n k N := by
  unfold digP digL
  apply List.map_congr_left
  intro i hi
  rw [if_pos (by omega)]
theorem digP_step (n k N j : Nat) (hj : j < k) : (digP n k N j).set (k - 1 - j) ((N / n ^ j % n : Nat) : Int) = digP n k N (j + 1) := by
  apply List.ext_getElem
  · simp [digP]
  · intro i h1 h2
    have hi : i < k := by simpa [digP] using h2
    rw [List.getElem_set]
    by_cases e : k - 1 - j = i
    · rw [if_pos e]
      simp only [digP, List.getElem_map, List.getElem_range]
      rw [if_pos (by omega)]
      have : k - 1 - i = j := by omega
      rw [this]
    · rw [if_neg e]
      simp only [digP, List.getElem_map, List.getElem_range]
      by_cases e2 : k ≤ i + j
      · rw [if_pos e2, if_pos (by omega)]
      · rw [if_neg e2, if_neg (by omega)]
theorem digL_less (n k N : Nat) (hn : 1 ≤ n) : Less n (digL n k N) := by
  intro i hi
  have hi' : i < k := by rw [digL_len] at hi; exact hi
  refine ⟨N / n ^ (k - 1 - i) % n, Nat.mod_lt _ hn, ?_⟩
  rw [List.getD_eq_getElem?_getD, List.getElem?_eq_getElem hi]
  simp [digL]
theorem div_pow_succ (n j N : Nat) : N / n ^ j / n = N / n ^ (j + 1) := by rw [Nat.div_div_eq_div_mul, Nat.pow_succ]
theorem digL_three (n N : Nat) (h : N < n * n * n) : digL n 3 N = [((N / n / n : Nat) : Int), ((N / n % n : Nat) : Int), ((N % n : Nat) : Int)] := by
  have hlt : N / n / n < n := by
    rw [Nat.div_div_eq_div_mul]
    exact Nat.div_lt_of_lt_mul h
  have e : N / n ^ 2 % n = N / n / n := by
    rw [Nat.pow_two, ← Nat.div_div_eq_div_mul, Nat.mod_eq_of_lt hlt]
  simp only [digL, List.range_succ, List.range_zero, List.nil_append, List.map_append, List.map_cons, List.map_nil, List.cons_append]
  show [((N / n ^ 2 % n : Nat) : Int), ((N / n ^ 1 % n : Nat) : Int), ((N / n ^ 0 % n : Nat) : Int)] = _
  rw [e, Nat.pow_one, Nat.pow_zero, Nat.div_one]

/-- the number of the triple x, y, z -/
def tri (n x y z : Nat) : Nat := (x * n + y) * n + z
theorem tri_lt {n x y z : Nat} (hx : x < n) (hy : y < n) (hz : z < n) : tri n x y z < n * n * n := by
  unfold tri
  have h1 := pair_lt hx hy
  have h2 : (x * n + y + 1) * n ≤ n * n * n := Nat.mul_le_mul_right n h1
  rw [Nat.add_mul, Nat.one_mul] at h2
  omega
theorem tri_z {n x y z : Nat} (hz : z < n) : tri n x y z % n = z := pair_mod hz
theorem tri_q {n x y z : Nat} (hn : 1 ≤ n) (hz : z < n) : tri n x y z / n = x * n + y := pair_div hn hz
theorem tri_three {n x y z : Nat} (hx : x < n) (hy : y < n) (hz : z < n) : digL n 3 (tri n x y z) = [(x : Int), (y : Int), (z : Int)] := by
  have hn : 1 ≤ n := by omega
  rw [digL_three n _ (tri_lt hx hy hz), tri_q hn hz, tri_z hz, pair_div hn hy, pair_mod hy]

/-- the first of the numbers less than K with P, as a triple to the base n; or no list -/
def fltL (n : Nat) (P : List Int → Bool) : List Int := match (List.range (n * n * n)).find? (fun N => P (digL n 3 N)) with | some N => digL n 3 N | none => []
theorem fltL_hit {n N : Nat} {P : List Int → Bool} (hN : N < n * n * n) (h1 : ∀ M, M < N → P (digL n 3 M) = false) (h2 : P (digL n 3 N) = true) : fltL n P = digL n 3 N := by
  have : (List.range (n * n * n)).find? (fun N => P (digL n 3 N)) = some N := by
    rw [List.find?_range_eq_some]
    exact ⟨h2, List.mem_range.2 hN, fun j hj => by simp [h1 j hj]⟩
  unfold fltL; rw [this]
theorem fltL_miss {n : Nat} {P : List Int → Bool} (h1 : ∀ M, M < n * n * n → P (digL n 3 M) = false) : fltL n P = [] := by
  have : (List.range (n * n * n)).find? (fun N => P (digL n 3 N)) = none := by
    rw [List.find?_eq_none]
    intro N hN
    rw [h1 N (List.mem_range.1 hN)]; simp
  unfold fltL; rw [this]
theorem fltL_len (n : Nat) (P : List Int → Bool) : (fltL n P).length ≤ 3 := by
  unfold fltL
  split
  · rw [digL_len]; exact Nat.le_refl _
  · simp

end Go.Proofs.Ytgnaeeifnhgobaa
