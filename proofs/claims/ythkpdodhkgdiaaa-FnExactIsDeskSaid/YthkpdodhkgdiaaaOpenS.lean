/-
  How the arguments of the laws read: pair maps, racks.
  No condition.
-/
import Derived.Test.YthkpdodhkgdiaaaOpenT
import Derived.Test.YthkpdodhkgdiaaaUS
namespace Go.Proofs.Ythkpdodhkgdiaaa
set_option maxRecDepth 100000
set_option linter.unusedVariables false
set_option linter.unusedSimpArgs false
open Go.ChangeShapes Go.WideShapes Go.ChangeAt Go.RowKit Go.Joins Go.Deep

theorem cells_table : Try.prog.cellsOf 33 = 1 := by kernel_rfl
theorem cells_lsol : Try.prog.cellsOf 52 = 2 := by kernel_rfl
theorem open_solution {H : Type} {enc : TypeId × Value → H} {W : World} {b0 : Nat} {v : Value} {d : DataW H} {p : List MemPlace} (hv : Value.okWide Try.prog W .any b0 52 v)
    (h : DataW.Trod enc Try.prog W 0 (fun _ => true) true 52 v d p) : ∃ a n c xss a' n' c' yss, v = .agg #[.slice a n c, .slice a' n' c'] ∧ Sol W a n xss a' n' yss ∧ (n ≤ 9223372036854775807 ∧ n' ≤ 9223372036854775807) := by
  obtain ⟨c0, c1, y0, y1, m, rfl, rfl, rfl, hy0, hy1⟩ := open_agg2 Try.underlying52 (by kernel_rfl) cells_lsol hv h
  obtain ⟨a, n, c, xss, e0, hr0, hn0⟩ := tbl_of_trod hy0
  obtain ⟨a', n', c', yss, e1, hr1, hn1⟩ := tbl_of_trod hy1
  simp at e0 e1
  subst e0 e1
  exact ⟨a, n, c, xss, a', n', c', yss, rfl, ⟨hr0, hr1⟩, hn0, hn1⟩

end Go.Proofs.Ythkpdodhkgdiaaa
