/-
  All solutions of few elements: what both sides compute, in plain lists.
  No condition.
-/
import Derived.Test.YthgafpeblpnolaaGreatBase2
import Derived.Test.YthgafpeblpnolaaGreatBase3
import Derived.Test.YthgafpeblpnolaaGreatBase
namespace Go.Proofs.YthgafpeblpnolaaGreat
set_option maxRecDepth 100000
set_option linter.unusedVariables false
set_option linter.unusedSimpArgs false

/-- the table whose rows are the columns -/
def trnL (n : Nat) (t : List (List Int)) : List (List Int) := tabF n fun x y => ((tv t y x : Nat) : Int)
theorem trnL_tv {n : Nat} {t : List (List Int)} {x y : Nat} (hx : x < n) (hy : y < n) : tv (trnL n t) x y = tv t y x := by
  unfold trnL
  conv => lhs; unfold tv
  rw [tabF_get _ _ _ hx]
  simp only [List.getD_eq_getElem?_getD, List.getElem?_map, List.getElem?_range hy, Option.map_some, Option.getD_some, Int.toNat_natCast]
  simp only [tv, List.getD_eq_getElem?_getD]
theorem trnL_sq {n : Nat} {t : List (List Int)} (h : Sq n t) : Sq n (trnL n t) := by
  refine ⟨tabF_len _ _, fun x hx => ?_⟩
  have e : (trnL n t).getD x [] = (List.range n).map fun y => ((tv t y x : Nat) : Int) := tabF_get _ _ _ hx
  refine ⟨by rw [e]; simp, fun y hy => ⟨by rw [trnL_tv hx hy]; exact h.lt hy hx, ?_⟩⟩
  rw [trnL_tv hx hy, e]
  simp [List.getD_eq_getElem?_getD, hy]
/-- do rows and columns make a solution? -/
def solF (n : Nat) (f r : List (List Int)) : Bool := eqOk n f (trnL n r) && collOk n f (trnL n r)
/-- the solutions with a first table -/
def solG (n : Nat) (f : List (List Int)) (rs : List (List (List Int))) : List (List (List Int) × List (List Int)) := (rs.filter (solF n f)).map fun r => (f, trnL n r)
/-- all solutions -/
def solL (n : Nat) : List (List (List Int) × List (List Int)) := (allT (prmL n) n []).flatMap fun f => solG n f (allT (prmL n) n [])
/-- those found so far -/
def solK (n : Nat) (L : List (List (List Int))) (i j : Nat) : List (List (List Int) × List (List Int)) := ((L.take i).flatMap fun f => solG n f L) ++ solG n (L.getD i []) (L.take j)
theorem solK_zero (n : Nat) (L : List (List (List Int))) : solK n L 0 0 = [] := by simp [solK, solG]
theorem solK_yes {n : Nat} {L : List (List (List Int))} {i j : Nat} (hj : j < L.length) (h : solF n (L.getD i []) (L.getD j []) = true) : solK n L i (j + 1) = solK n L i j ++ [(L.getD i [], trnL n (L.getD j []))] := by
  have e : L.getD j [] = L[j] := by simp [List.getD_eq_getElem?_getD, List.getElem?_eq_getElem hj]
  rw [e] at h ⊢
  unfold solK solG
  rw [List.take_succ_eq_append_getElem hj, List.filter_append, List.map_append, ← List.append_assoc]
  rw [List.filter_cons, if_pos h]; rfl
theorem solK_no {n : Nat} {L : List (List (List Int))} {i j : Nat} (hj : j < L.length) (h : solF n (L.getD i []) (L.getD j []) = false) : solK n L i (j + 1) = solK n L i j := by
  have e : L.getD j [] = L[j] := by simp [List.getD_eq_getElem?_getD, List.getElem?_eq_getElem hj]
  rw [e] at h
  unfold solK solG
  rw [List.take_succ_eq_append_getElem hj, List.filter_append, List.map_append]
  rw [List.filter_cons, if_neg (by rw [h]; simp)]; simp
theorem solK_next {n : Nat} {L : List (List (List Int))} {i : Nat} (hi : i < L.length) : solK n L i L.length = solK n L (i + 1) 0 := by
  unfold solK
  rw [List.take_length, List.take_succ_eq_append_getElem hi, List.flatMap_append]
  simp [solG, List.getD_eq_getElem?_getD, List.getElem?_eq_getElem hi]
theorem solK_all (n : Nat) (L : List (List (List Int))) : solK n L L.length 0 = L.flatMap fun f => solG n f L := by
  unfold solK; rw [List.take_length]; simp [solG]
theorem solG_len (n : Nat) (f : List (List Int)) (rs : List (List (List Int))) : (solG n f rs).length ≤ rs.length := by
  unfold solG; rw [List.length_map]; exact List.length_filter_le _ _
theorem flat_len {α β : Type} (g : α → List β) (b : Nat) (h : ∀ x, (g x).length ≤ b) : ∀ l : List α, (l.flatMap g).length ≤ l.length * b := by
  intro l
  induction l with
  | nil => simp
  | cons x l ih => rw [List.flatMap_cons, List.length_append, List.length_cons, Nat.succ_mul]; have := h x; omega
theorem solK_len (n : Nat) (L : List (List (List Int))) (i j : Nat) : (solK n L i j).length ≤ L.length * L.length + L.length := by
  unfold solK
  rw [List.length_append]
  have h1 := flat_len (fun f => solG n f L) L.length (fun f => solG_len n f L) (L.take i)
  have h2 := solG_len n (L.getD i []) (L.take j)
  have h3 : (L.take i).length * L.length ≤ L.length * L.length := Nat.mul_le_mul_right _ (by simp; omega)
  have h4 : (L.take j).length ≤ L.length := by simp; omega
  omega
theorem solL_len (n : Nat) : (solL n).length ≤ (allT (prmL n) n []).length * (allT (prmL n) n []).length := flat_len _ _ (fun f => solG_len n f _) _
/-- the tables by their numbers -/
theorem allT_dig : ∀ n : Fin 4, 1 ≤ n.1 → allT (prmL n.1) n.1 [] = (List.range ((prmL n.1).length ^ n.1)).map fun i => (digL (prmL n.1).length n.1 i).map fun d => (prmL n.1).getD d.toNat [] := by decide +kernel
theorem allT_len : ∀ n : Fin 4, 1 ≤ n.1 → (allT (prmL n.1) n.1 []).length = (prmL n.1).length ^ n.1 ∧ (prmL n.1).length ^ n.1 ≤ 216 ∧ 1 ≤ (prmL n.1).length ∧ (prmL n.1).length ≤ 6 := by decide +kernel
theorem rowL_any {n : Nat} (h1 : 1 ≤ n) : rowL n (fun _ => true) = allT (prmL n) n [] := by
  rw [rowL_filter h1 (fits := fun _ => true) (fun _ _ _ => rfl)]
  exact List.filter_eq_self.2 fun _ _ => rfl
end Go.Proofs.YthgafpeblpnolaaGreat
