/-
  A table with rows and columns exchanged; is a pair map nondegenerate? In plain lists.
  No condition.
-/
import Derived.Test.YtmncpnpjhchliaaGreatBase
import Derived.Test.YtmncpnpjhchliaaGreatBase3
namespace Go.Proofs.YtmncpnpjhchliaaGreat
set_option maxRecDepth 100000
set_option linter.unusedVariables false
set_option linter.unusedSimpArgs false

/-- the table whose rows are the columns -/
def trnL (n : Nat) (t : List (List Int)) : List (List Int) := tabF n fun x y => ((tv t y x : Nat) : Int)
theorem trnL_tv {n : Nat} {t : List (List Int)} {x y : Nat} (hx : x < n) (hy : y < n) : tv (trnL n t) x y = tv t y x := by
  unfold trnL
  conv => lhs; unfold tv
  rw [tabF_get _ _ _ hx]
  simp only [List.getD_eq_getElem?_getD, List.getElem?_map, List.getElem?_range hy, Option.map_some, Option.getD_some, Int.toNat_natCast]
  simp only [tv, List.getD_eq_getElem?_getD]
theorem trnL_sq {n : Nat} {t : List (List Int)} (h : Sq n t) : Sq n (trnL n t) := by
  refine ⟨tabF_len _ _, fun x hx => ?_⟩
  have e : (trnL n t).getD x [] = (List.range n).map fun y => ((tv t y x : Nat) : Int) := tabF_get _ _ _ hx
  refine ⟨by rw [e]; simp, fun y hy => ⟨by rw [trnL_tv hx hy]; exact h.lt hy hx, ?_⟩⟩
  rw [trnL_tv hx hy, e]
  simp [List.getD_eq_getElem?_getD, hy]
def ndF (f g : List (List Int)) : Bool := f.all permOk && (trnL f.length g).all permOk
end Go.Proofs.YtmncpnpjhchliaaGreat
