/-
  How the arguments of the laws read: slices of numbers, braids.
  No condition.
-/
import Derived.Test.YtehomfbehhlhmaaMem
import Derived.ProofKit
import Derived.OpenShut
import Derived.ChangeOld
import Derived.Below
import Derived.Lib.SmallJoins
namespace Go.Proofs.Ytehomfbehhlhmaa
set_option linter.unusedVariables false
set_option linter.unusedSimpArgs false
set_option maxRecDepth 100000
open Go.ChangeShapes Go.WideShapes Go.ChangeAt Go.RowKit Go.Joins

theorem ownK : ownKnob Try.prog.godebug = none := by kernel_rfl
theorem laidOut : laidOutB Try.prog = true := by kernel_rfl
theorem und_int : Try.prog.underlying 2 = some (.int .i64) := by kernel_rfl
theorem cells_int : Try.prog.cellsOf 2 = 1 := by kernel_rfl

def I64 (x : Int) : Prop := -9223372036854775808 ≤ x ∧ x ≤ 9223372036854775807
theorem i64_of_wf {x : Int} (h : (Lit.int .i64 x).wf = true) : I64 x := by
  have := bounds_i64 h
  exact this
def I64s (xs : List Int) : Prop := ∀ x ∈ xs, I64 x

theorem row_of_trod {H : Type} {enc : TypeId × Value → H} {W : World} {fuel : Nat} {sp : Nat → Bool} {cs : List Value} {x : DataW H × List MemPlace} (hsp : ∀ b, sp b = true)
    (hf : DataW.trod enc Try.prog W 0 sp true fuel 22 cs = some x) : ∃ a n c xs, cs = [.slice a n c] ∧ Row W a n xs ∧ n ≤ 9223372036854775807 ∧ I64s xs := by
  rcases open_ints und_ints und_int cells_int hf with ⟨rfl, _⟩ | ⟨⟨b, off, spot⟩, l, c, zs, rfl, _, hl, hm, hz, _, hcell, hwz⟩
  · exact ⟨none, 0, 0, [], rfl, Row.nil _ _, by omega, fun x hx => by simp at hx⟩
  · rw [if_pos (hsp _)] at hz
    refine ⟨_, l, c, zs.take l, rfl, ⟨by rw [List.length_take]; omega, fun i hi => ?_⟩, by unfold maxLen at hm; omega, fun x hx => i64_of_wf (hwz x (List.mem_of_mem_take hx))⟩
    have h0 := hcell 0 (by omega)
    have hi' := hcell i (by omega)
    have hspot : spot = none := by simpa [Addr.add] using World.cell?_spot h0
    subst hspot
    have e : (⟨b, off, none⟩ : Addr).add i = ⟨b, off + i, none⟩ := by unfold Addr.add; split <;> simp_all
    rw [e] at hi'
    refine ⟨b, off, rfl, World.block_lt_of_cell? W ⟨b, off + i, none⟩ hi', hi'.trans ?_⟩
    simp [List.getD_eq_getElem?_getD, List.getElem?_take, hi]

theorem open_row {H : Type} {enc : TypeId × Value → H} {W : World} {b0 : Nat} {v : Value} {d : DataW H} {p : List MemPlace} {sp : Nat → Bool} (hsp : ∀ b, sp b = true) (hv : Value.okWide Try.prog W .any b0 22 v)
    (h : DataW.Trod enc Try.prog W 0 sp true 22 v d p) : ∃ a n c xs, v = .slice a n c ∧ Row W a n xs ∧ n ≤ 9223372036854775807 ∧ I64s xs := by
  obtain ⟨a, n, c, rfl⟩ := okWide_slice und_ints hv
  obtain ⟨fuel, hf⟩ := h
  obtain ⟨a', n', c', xs, hcs, hr⟩ := row_of_trod hsp hf
  simp [Value.cells] at hcs
  obtain ⟨rfl, rfl, rfl⟩ := hcs
  exact ⟨_, _, _, xs, rfl, hr⟩


theorem open_num {H : Type} {enc : TypeId × Value → H} {W : World} {b0 : Nat} {v : Value} {d : DataW H} {p : List MemPlace} {sp : Nat → Bool} (hv : Value.okWide Try.prog W .any b0 2 v)
    (h : DataW.Trod enc Try.prog W 0 sp true 2 v d p) : ∃ x, v = .int .i64 x ∧ I64 x := by
  obtain ⟨x, rfl, rfl, rfl, wx⟩ := open_int und_int hv h
  exact ⟨x, rfl, i64_of_wf wx⟩

end Go.Proofs.Ytehomfbehhlhmaa
