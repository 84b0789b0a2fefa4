/-
  How the arguments of the laws read: strings and slices of bytes.
  No condition.
-/
import Derived.Test.YthgafpeblpnolaaBase
import Derived.ChangeMaps5
namespace Go.Proofs.Ythgafpeblpnolaa
set_option linter.unusedVariables false
set_option linter.unusedSimpArgs false
set_option maxRecDepth 100000
open Go.ChangeShapes Go.WideShapes Go.ChangeAt Go.RowKit Go.Joins

theorem und_strO : Try.prog.underlying 9 = some .string := by kernel_rfl
theorem open_str {H : Type} {enc : TypeId × Value → H} {W : World} {b0 : Nat} {v : Value} {d : DataW H} {p : List MemPlace} {sp : Nat → Bool} (hv : Value.okWide Try.prog W .any b0 9 v)
    (h : DataW.Trod enc Try.prog W 0 sp true 9 v d p) : ∃ s : ByteArray, v = .string s ∧ s.size ≤ 9223372036854775807 := by
  obtain ⟨s, rfl, _, _, hs⟩ := Go.ChangeMaps.open_string und_strO hv h
  exact ⟨s, rfl, hs⟩

theorem und_bytesO : Try.prog.underlying 28 = some (.slice 5) := by kernel_rfl
theorem und_u8O : Try.prog.underlying 5 = some (.int .u8) := by kernel_rfl
theorem cells_u8 : Try.prog.cellsOf 5 = 1 := by kernel_rfl
/-- the slice (a, n) reads in w as the bytes xs -/
def Bts (w : World) (a : Option Addr) (n : Nat) (xs : List Int) : Prop :=
  n = xs.length ∧ (∀ i, i < n → ∃ b off, a = some ⟨b, off, none⟩ ∧ b < w.heap.size ∧ w.cell? ⟨b, off + i, none⟩ = some (.int .u8 (xs.getD i 0))) ∧ ∀ i, 0 ≤ xs.getD i 0 ∧ xs.getD i 0 ≤ 255
theorem Bts.below {w w' : World} {a : Option Addr} {n : Nat} {xs : List Int} (h : Bts w a n xs) (hb : Below w.heap.size w w') : Bts w' a n xs :=
  ⟨h.1, fun i hi => by obtain ⟨b, off, h1, h3, h2⟩ := h.2.1 i hi; exact ⟨b, off, h1, Nat.lt_of_lt_of_le h3 hb.size, (hb.cell (p := ⟨b, off + i, none⟩) h3).trans h2⟩, h.2.2⟩
theorem Bts.len {w : World} {a : Option Addr} {n : Nat} {xs : List Int} (h : Bts w a n xs) : n = xs.length := h.1
theorem Bts.at {w : World} {a : Option Addr} {n : Nat} {xs : List Int} (h : Bts w a n xs) (i : Nat) (hi : i < n) : ∃ b off, a = some ⟨b, off, none⟩ ∧ w.cell? ⟨b, off + i, none⟩ = some (.int .u8 (xs.getD i 0)) := by
  obtain ⟨b, off, h1, _, h2⟩ := h.2.1 i hi; exact ⟨b, off, h1, h2⟩
theorem open_bytes {H : Type} {enc : TypeId × Value → H} {W : World} {b0 : Nat} {v : Value} {d : DataW H} {p : List MemPlace} {sp : Nat → Bool} (hsp : ∀ b, sp b = true) (hv : Value.okWide Try.prog W .any b0 28 v)
    (h : DataW.Trod enc Try.prog W 0 sp true 28 v d p) : ∃ a n c xs, v = .slice a n c ∧ Bts W a n xs ∧ n ≤ 9223372036854775807 := by
  obtain ⟨a, n, c, rfl⟩ := okWide_slice und_bytesO hv
  obtain ⟨fuel, hf⟩ := h
  rcases open_ints und_bytesO und_u8O cells_u8 hf with ⟨hcs, _⟩ | ⟨⟨b, off, spot⟩, l, c', zs, hcs, _, hl, hm, hz, _, hcell, hwz⟩
  · simp [Value.cells] at hcs
    obtain ⟨rfl, rfl, rfl⟩ := hcs
    exact ⟨_, _, _, [], rfl, ⟨rfl, fun i hi => absurd hi (by omega), fun i => by simp⟩, by omega⟩
  · simp [Value.cells] at hcs
    obtain ⟨rfl, rfl, rfl⟩ := hcs
    rw [if_pos (hsp _)] at hz
    refine ⟨_, _, _, zs.take n, rfl, ⟨by rw [List.length_take]; omega, fun i hi => ?_, fun i => ?_⟩, by unfold maxLen at hm; omega⟩
    · have h0 := hcell 0 (by omega)
      have hi' := hcell i (by omega)
      have hspot : spot = none := by simpa [Addr.add] using World.cell?_spot h0
      subst hspot
      have e : (⟨b, off, none⟩ : Addr).add i = ⟨b, off + i, none⟩ := by unfold Addr.add; split <;> simp_all
      rw [e] at hi'
      refine ⟨b, off, rfl, World.block_lt_of_cell? W ⟨b, off + i, none⟩ hi', hi'.trans ?_⟩
      simp [List.getD_eq_getElem?_getD, List.getElem?_take, hi]
    · have hb := range_u8 hwz i
      rw [List.getD_eq_getElem?_getD, List.getElem?_take]
      split
      · exact hb
      · simp

end Go.Proofs.Ythgafpeblpnolaa
