/-
  How the arguments of the laws read: racks.
  No condition.
-/
import Derived.Test.YtehomfbehhlhmaaBase
import Derived.Test.YtehomfbehhlhmaaUR
namespace Go.Proofs.Ytehomfbehhlhmaa
set_option maxRecDepth 100000
set_option linter.unusedVariables false
set_option linter.unusedSimpArgs false
open Go.ChangeShapes Go.WideShapes Go.ChangeAt Go.RowKit Go.Joins Go.Deep

theorem array1 {α : Type} {cs : Array α} (h : cs.size = 1) : ∃ c0, cs = #[c0] := by
  obtain ⟨l⟩ := cs
  match l, h with
  | [c0], _ => exact ⟨c0, rfl⟩
theorem cells_lrack1 : Try.prog.cellsOf 62 = 1 := by kernel_rfl
theorem open_rack {H : Type} {enc : TypeId × Value → H} {W : World} {b0 : Nat} {v : Value} {d : DataW H} {p : List MemPlace} (hv : Value.okWide Try.prog W .any b0 62 v)
    (h : DataW.Trod enc Try.prog W 0 (fun _ => true) true 62 v d p) : ∃ a n c xss, v = rAgg a n c ∧ Tbl W a n xss ∧ n ≤ 9223372036854775807 := by
  obtain ⟨cs, rfl, hsz⟩ := okWide_struct Try.underlying62 hv
  obtain ⟨c0, rfl⟩ := array1 (hsz.trans cells_lrack1)
  obtain ⟨fuel, hf⟩ := h
  obtain ⟨xs, n2, _, _, _, hlen, hf1⟩ := DataW.trod_struct Try.underlying62 hf
  match xs, hlen with
  | [r0], _ =>
    have r1 := hf1 0 _ rfl
    obtain ⟨a, n, c, xss, e0, hr0, hn0⟩ := tbl_of_trod r1
    simp [Value.cells, cells_table] at e0
    subst e0
    exact ⟨a, n, c, xss, rfl, hr0, hn0⟩

end Go.Proofs.Ytehomfbehhlhmaa
