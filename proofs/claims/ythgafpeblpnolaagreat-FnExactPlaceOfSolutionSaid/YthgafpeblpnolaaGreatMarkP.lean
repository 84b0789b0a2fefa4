/-
  The marks of lists of pairs of tables.
  No condition.
-/
import Derived.Test.YthgafpeblpnolaaGreatBase
namespace Go.Proofs.YthgafpeblpnolaaGreat
set_option maxRecDepth 100000
set_option linter.unusedVariables false
set_option linter.unusedSimpArgs false

def tot2 (s : List (List Int) × List (List Int)) : Nat := tot s.1 + tot s.2
def totP (L : List (List (List Int) × List (List Int))) : Nat := (L.map tot2).sum
def mkP (k : Int) (s : List (List Int) × List (List Int)) : List (List Int) × List (List Int) := (markT k s.1, markT (k + tot s.1) s.2)
def markP (k : Int) : List (List (List Int) × List (List Int)) → List (List (List Int) × List (List Int))
  | [] => []
  | s :: r => mkP k s :: markP (k + tot2 s) r
theorem markP_length (k : Int) (L : List (List (List Int) × List (List Int))) : (markP k L).length = L.length := by
  induction L generalizing k with
  | nil => rfl
  | cons x r ih => simp [markP, ih]
theorem totP_succ {L : List (List (List Int) × List (List Int))} {k : Nat} (h : k < L.length) : totP (L.take (k + 1)) = totP (L.take k) + tot2 (L.getD k ([], [])) := by
  have e : L.getD k ([], []) = L[k] := by rw [List.getD_eq_getElem?_getD, List.getElem?_eq_getElem h, Option.getD_some]
  rw [e]
  simp only [totP, List.take_succ_eq_append_getElem h, List.map_append, List.sum_append, List.map_cons, List.map_nil, List.sum_cons, List.sum_nil, Nat.add_zero]
theorem totP_cons (x : List (List Int) × List (List Int)) (r : List (List (List Int) × List (List Int))) : totP (x :: r) = tot2 x + totP r := by
  simp only [totP, List.map_cons, List.sum_cons]
theorem totP_le {L : List (List (List Int) × List (List Int))} (k : Nat) : totP (L.take k) ≤ totP L := by
  have h0 : L = L.take k ++ L.drop k := (List.take_append_drop k L).symm
  have h : totP L = totP (L.take k) + totP (L.drop k) := by
    conv => lhs; rw [h0]
    simp only [totP, List.map_append, List.sum_append]
  omega
theorem markP_get (k : Int) (L : List (List (List Int) × List (List Int))) (i : Nat) (h : i < L.length) : (markP k L).getD i ([], []) = mkP (k + totP (L.take i)) (L.getD i ([], [])) := by
  induction L generalizing k i with
  | nil => simp at h
  | cons x r ih =>
    cases i with
    | zero => simp [markP, totP]
    | succ i =>
      have := ih (k + tot2 x) i (by simpa using h)
      simp only [markP, List.getD_cons_succ, List.take_succ_cons]
      rw [this, totP_cons]
      congr 1
      omega
theorem markP_succ (k : Int) {L : List (List (List Int) × List (List Int))} {j : Nat} (h : j < L.length) : markP k (L.take (j + 1)) = markP k (L.take j) ++ [mkP (k + totP (L.take j)) (L.getD j ([], []))] := by
  induction L generalizing k j with
  | nil => simp at h
  | cons x r ih =>
    cases j with
    | zero => simp [markP, totP]
    | succ j =>
      have := ih (k + tot2 x) (j := j) (by simpa using h)
      simp only [List.take_succ_cons, markP, List.getD_cons_succ, List.cons_append]
      rw [this, totP_cons, show k + (tot2 x : Int) + (totP (r.take j) : Int) = k + ((tot2 x + totP (r.take j) : Nat) : Int) by omega]
theorem totP_bd {m : Nat} : ∀ {L : List (List (List Int) × List (List Int))}, (∀ s ∈ L, tot2 s ≤ m) → totP L ≤ m * L.length := by
  intro L
  induction L with
  | nil => intro _; simp [totP]
  | cons t L ih =>
    intro h
    rw [totP_cons, List.length_cons, Nat.mul_succ]
    have := h t (by simp)
    have := ih fun s hs => h s (by simp [hs])
    omega
theorem tot_bd {m : Nat} : ∀ {R : List (List Int)}, (∀ r ∈ R, r.length ≤ m) → tot R ≤ m * R.length := by
  intro R
  induction R with
  | nil => intro _; simp [tot]
  | cons r R ih =>
    intro h
    have e : tot (r :: R) = r.length + tot R := by simp only [tot, List.map_cons, List.sum_cons]
    rw [e, List.length_cons, Nat.mul_succ]
    have := h r (by simp)
    have := ih fun s hs => h s (by simp [hs])
    omega
end Go.Proofs.YthgafpeblpnolaaGreat
