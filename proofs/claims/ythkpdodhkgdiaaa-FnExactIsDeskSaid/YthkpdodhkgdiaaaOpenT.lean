/-
  How the arguments of the laws read: slices of slices of numbers.
  No condition.
-/
import Derived.Test.YthkpdodhkgdiaaaOpen
import Derived.Test.YthkpdodhkgdiaaaTab
import Derived.Deep.Matrix
namespace Go.Proofs.Ythkpdodhkgdiaaa
set_option maxRecDepth 100000
set_option linter.unusedVariables false
set_option linter.unusedSimpArgs false
open Go.ChangeShapes Go.WideShapes Go.ChangeAt Go.RowKit Go.Joins Go.Deep

theorem und_rows' : Try.prog.underlying 33 = some (.slice 22) := by kernel_rfl
theorem cells_row : Try.prog.cellsOf 22 = 1 := by kernel_rfl

theorem addr_of_cell {W : World} {a : Addr} {v : Value} (h : W.cell? (a.add 0) = some v) : ∃ b off, a = ⟨b, off, none⟩ := by
  obtain ⟨b, off, spot⟩ := a
  have hspot : spot = none := by simpa [Addr.add] using World.cell?_spot h
  exact ⟨b, off, by rw [hspot]⟩
theorem add_none (b off i : Nat) : (⟨b, off, none⟩ : Addr).add i = ⟨b, off + i, none⟩ := by unfold Addr.add; split <;> simp_all

theorem tbl_of_trod {H : Type} {enc : TypeId × Value → H} {W : World} {fuel : Nat} {cs : List Value} {x : DataW H × List MemPlace}
    (hf : DataW.trod enc Try.prog W 0 (fun _ => true) true fuel 33 cs = some x) : ∃ a n c xss, cs = [.slice a n c] ∧ Tbl W a n xss ∧ n ≤ 9223372036854775807 := by
  rcases open_int_rows und_rows' und_ints und_int cells_row cells_int hf with ⟨rfl, _⟩ | ⟨a, len, cap, A, L, C, Z, rfl, _, hl, hm, _, hrow⟩
  · exact ⟨none, 0, 0, [], rfl, Tbl.nil _ _, by omega⟩
  · refine ⟨some a, len, cap, (List.range len).map fun r => (Z r).take (L r), rfl, ⟨by simp, fun i hi => ?_⟩, by unfold maxLen at hm; omega⟩
    obtain ⟨b, off, rfl⟩ := addr_of_cell (hrow 0 (by omega)).1
    obtain ⟨h1, h2, h3, h4, h5, h6, h7⟩ := hrow i (by omega)
    rw [add_none] at h1
    have e : ((List.range len).map fun r => (Z r).take (L r)).getD i [] = (Z i).take (L i) := by simp [List.getD_eq_getElem?_getD, hi]
    refine ⟨b, off, A i, L i, C i, rfl, World.block_lt_of_cell? W _ h1, h1, ?_, by unfold maxLen at h3; omega⟩
    rw [e]
    refine ⟨by rw [List.length_take]; omega, fun j hj => ?_⟩
    cases hA : A i with
    | none => have := h6 hA; omega
    | some a' =>
      obtain ⟨_, hc⟩ := h7 a' hA
      obtain ⟨b', off', rfl⟩ := addr_of_cell (hc 0 (by omega))
      have hcj := hc j (by omega)
      rw [add_none] at hcj
      refine ⟨b', off', rfl, World.block_lt_of_cell? W _ hcj, hcj.trans ?_⟩
      simp [List.getD_eq_getElem?_getD, List.getElem?_take, hj]

theorem open_table {H : Type} {enc : TypeId × Value → H} {W : World} {b0 : Nat} {v : Value} {d : DataW H} {p : List MemPlace} (hv : Value.okWide Try.prog W .any b0 33 v)
    (h : DataW.Trod enc Try.prog W 0 (fun _ => true) true 33 v d p) : ∃ a n c xss, v = .slice a n c ∧ Tbl W a n xss ∧ n ≤ 9223372036854775807 := by
  obtain ⟨a, n, c, rfl⟩ := okWide_slice und_rows' hv
  obtain ⟨fuel, hf⟩ := h
  obtain ⟨a', n', c', xss, hcs, hr⟩ := tbl_of_trod hf
  simp [Value.cells] at hcs
  obtain ⟨rfl, rfl, rfl⟩ := hcs
  exact ⟨_, _, _, xss, rfl, hr⟩

end Go.Proofs.Ythkpdodhkgdiaaa
