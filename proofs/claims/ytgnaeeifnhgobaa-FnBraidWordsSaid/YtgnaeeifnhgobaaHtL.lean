/-
  The word of the half twist, in plain lists.
  No condition.
-/
import Derived.Test.YtgnaeeifnhgobaaGarW
import Derived.Test.YtgnaeeifnhgobaaGarN
namespace Go.Proofs.Ytgnaeeifnhgobaa
set_option maxRecDepth 100000
set_option linter.unusedVariables false
set_option linter.unusedSimpArgs false

/-- 1, then 2 1, then 3 2 1, and so on -/
def htW (n : Nat) : List Int := (List.range (n - 1)).flatMap fun i => (List.range (i + 1)).map fun k => ((i + 1 - k : Nat) : Int)
/-- each letter is a descent -/
def chkW (n : Nat) : List Int → List Int → Bool
  | p, [] => decide (p = unitL n)
  | p, x :: ws => decide (0 < x) && (decide (x.toNat < n) && (decide (p.getD x.toNat 0 < p.getD (x.toNat - 1) 0) && chkW n (swp p (x.toNat - 1)) ws))
theorem chkW_wd {n : Nat} : ∀ (ws : List Int) (q : Pm), Fx n q → chkW n (toL n q) ws = true → Wd n q ws := by
  intro ws
  induction ws with
  | nil =>
    intro q hq h
    have h1 : toL n q = unitL n := of_decide_eq_true h
    rw [unit_toL] at h1
    rw [toL_inj hq (Fx.one n) h1]
    exact .nil
  | cons x ws ih =>
    intro q hq h
    simp only [chkW, Bool.and_eq_true, decide_eq_true_eq] at h
    obtain ⟨h1, h2, h3, h4⟩ := h
    obtain ⟨k, hk⟩ : ∃ k : Nat, x = (k : Int) + 1 := ⟨(x - 1).toNat, by omega⟩
    subst hk
    have e1 : ((k : Int) + 1).toNat = k + 1 := by omega
    rw [e1] at h2 h3 h4
    rw [Nat.add_sub_cancel] at h3 h4
    rw [toL_get h2, toL_get (by omega)] at h3
    rw [swp_toL h2] at h4
    exact .cons q k ws (by unfold St; omega) (ih _ ((Fx.s h2).m hq) h4)
theorem htW_chk : ∀ n : Fin 7, 2 ≤ n.1 → chkW n.1 (unitL n.1).reverse (htW n.1) = true := by decide +kernel
theorem htW_len : ∀ n : Fin 7, (htW n.1).length = n.1 * (n.1 - 1) / 2 := by decide +kernel
theorem htW_wd {n : Nat} (h2 : 2 ≤ n) (h6 : n ≤ 6) : Wd n (Pm.tw n) (htW n) := by
  have := htW_chk ⟨n, by omega⟩ h2
  simp only [rev_toL] at this
  exact chkW_wd _ _ (tw_fx n) this
/-- the first descent of a list -/
def fstD (p : List Int) : Nat := (List.range (p.length - 1)).findIdx fun k => decide (p.getD (k + 1) 0 < p.getD k 0)
/-- the half twist, from which letters are taken -/
def htS (n : Nat) : Nat → List Int
  | 0 => (unitL n).reverse
  | s + 1 => swp (htS n s) (fstD (htS n s))
/-- one step of the program's loop -/
def htOk (n s : Nat) : Bool :=
  let p := htS n s; let k := fstD p
  decide (p.length = n) && (decide (k + 1 < n) && (decide (p.getD (k + 1) 0 < p.getD k 0) && ((List.range k).all (fun j => decide (p.getD j 0 < p.getD (j + 1) 0)) && decide ((htW n)[s]? = some ((k : Int) + 1)))))
theorem htS_ok : ∀ n : Fin 7, 2 ≤ n.1 → ((List.range (n.1 * (n.1 - 1) / 2)).all (htOk n.1)) = true := by decide +kernel
theorem htS_end : ∀ n : Fin 7, htS n.1 (n.1 * (n.1 - 1) / 2) = unitL n.1 := by decide +kernel
end Go.Proofs.Ytgnaeeifnhgobaa
