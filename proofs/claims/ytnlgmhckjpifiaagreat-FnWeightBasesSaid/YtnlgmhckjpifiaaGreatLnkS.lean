/-
  LinkingNumbers: what the reference's function computes.
  No condition but bounds.
-/
import Derived.Test.YtnlgmhckjpifiaaGreatLnkI
import Derived.Test.YtnlgmhckjpifiaaGreatBase
import Derived.Deep.DeepCutAuto
namespace Go.Proofs.YtnlgmhckjpifiaaGreat
set_option maxRecDepth 100000
set_option linter.unusedVariables false
set_option linter.unusedSimpArgs false
open Go.RowKit

theorem zrow_succ {N k : Nat} (h : k < N) : (tabF N fun _ _ => 0).take (k + 1) = (tabF N fun _ _ => 0).take k ++ [List.replicate N 0] := by
  have hl : k < (tabF N fun _ _ => 0).length := by rw [tabF_len]; exact h
  rw [List.take_succ_eq_append_getElem hl]
  have e2 := Tbl.getD hl
  rw [tabF_row h] at e2
  rw [← e2]
  congr 2
  apply List.ext_getElem <;> simp

end Go.Proofs.YtnlgmhckjpifiaaGreat
