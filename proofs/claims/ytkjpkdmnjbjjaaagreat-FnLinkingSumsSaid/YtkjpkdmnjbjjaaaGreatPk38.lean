/-
  Walks and plain laws of this seat, some texts in one.
  No condition but bounds on lengths.
-/
import Derived.Test.YtkjpkdmnjbjjaaaGreatPk11
namespace Go.Proofs.YtkjpkdmnjbjjaaaGreat
set_option linter.unusedVariables false
set_option linter.unusedSimpArgs false
set_option maxRecDepth 100000
/-! ### what holds of each list of n numbers below n without a double one -/
def allL (n : Nat) (P : List Nat → Bool) : Nat → List Nat → Bool
  | 0, l => P l
  | m + 1, l => (List.range n).all fun x => l.contains x || allL n P m (l ++ [x])
theorem allL_ok {n : Nat} {P : List Nat → Bool} : ∀ (m : Nat) (l : List Nat), allL n P m l = true → ∀ r : List Nat, r.length = m → (∀ x ∈ r, x < n) → (l ++ r).Nodup → P (l ++ r) = true := by
  intro m
  induction m with
  | zero => intro l h r hr _ _; rw [List.eq_nil_of_length_eq_zero hr, List.append_nil]; exact h
  | succ m ih =>
    intro l h r hr hx hn
    match r, hr with
    | x :: r, hr =>
      unfold allL at h
      have h1 := List.all_eq_true.1 h x (List.mem_range.2 (hx x List.mem_cons_self))
      have hc : l.contains x = false := by
        rw [List.nodup_append] at hn
        rw [Bool.eq_false_iff]
        intro hc
        exact hn.2.2 x (List.contains_iff_mem.1 hc) x List.mem_cons_self rfl
      rw [hc, Bool.false_or] at h1
      have e : l ++ x :: r = (l ++ [x]) ++ r := by simp
      rw [e] at hn ⊢
      exact ih (l ++ [x]) h1 r (by simpa using hr) (fun y hy => hx y (List.mem_cons_of_mem _ hy)) hn
/-! ### components of a permutation, as a list -/
def labQ (q : List Nat) : List Int := labF (fun i => q.getD i 0) q.length
def numQ (q : List Nat) : Int := grtL (labQ q)
def cjQ (k : Nat) (q : List Nat) : List Nat := (List.range q.length).map fun i => sig k (q.getD (sig k i) 0)
def chkI (q : List Nat) : Bool := (fun L : List Int => (List.range q.length).all fun i => L.getD (q.getD i 0) 0 == L.getD i 0) (labQ q)
def chkC (q : List Nat) : Bool := (fun m : Int => (List.range (q.length - 1)).all fun k => numQ (cjQ k q) == m) (numQ q)
set_option maxHeartbeats 4000000 in
theorem chk_all : ∀ n : Fin 7, 2 ≤ n.1 → allL n.1 (fun q => chkI q && chkC q) n.1 [] = true := by decide +kernel
end Go.Proofs.YtkjpkdmnjbjjaaaGreat
