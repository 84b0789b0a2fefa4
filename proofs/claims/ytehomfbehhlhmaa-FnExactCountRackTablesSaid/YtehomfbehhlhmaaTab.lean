/-
  A slice of slices of numbers that is read.
  No condition.
-/
import Derived.Test.YtehomfbehhlhmaaMem
namespace Go.Proofs.Ytehomfbehhlhmaa
set_option maxRecDepth 100000
set_option linter.unusedVariables false
set_option linter.unusedSimpArgs false
open Go.RowKit

/-- the slice (a, n) reads in w as the rows xss -/
def Tbl (w : World) (a : Option Addr) (n : Nat) (xss : List (List Int)) : Prop :=
  n = xss.length ∧ ∀ i, i < n → ∃ b off ai ni ci, a = some ⟨b, off, none⟩ ∧ b < w.heap.size ∧ w.cell? ⟨b, off + i, none⟩ = some (.slice ai ni ci) ∧ Row w ai ni (xss.getD i []) ∧ ni ≤ 9223372036854775807

theorem Tbl.nil (w : World) (a : Option Addr) : Tbl w a 0 [] := ⟨rfl, fun i h => absurd h (by omega)⟩
theorem Tbl.len {w : World} {a : Option Addr} {n : Nat} {xss : List (List Int)} (h : Tbl w a n xss) : n = xss.length := h.1
theorem Tbl.at {w : World} {a : Option Addr} {n : Nat} {xss : List (List Int)} (h : Tbl w a n xss) (i : Nat) (hi : i < n) : ∃ b off ai ni ci, a = some ⟨b, off, none⟩ ∧ w.cell? ⟨b, off + i, none⟩ = some (.slice ai ni ci) ∧ Row w ai ni (xss.getD i []) ∧ ni ≤ 9223372036854775807 := by
  obtain ⟨b, off, ai, ni, ci, h1, _, h2⟩ := h.2 i hi; exact ⟨b, off, ai, ni, ci, h1, h2⟩
theorem Tbl.below {w w' : World} {a : Option Addr} {n : Nat} {xss : List (List Int)} (h : Tbl w a n xss) (hb : Below w.heap.size w w') : Tbl w' a n xss :=
  ⟨h.1, fun i hi => by obtain ⟨b, off, ai, ni, ci, h1, h3, h2, h4, h5⟩ := h.2 i hi; exact ⟨b, off, ai, ni, ci, h1, Nat.lt_of_lt_of_le h3 hb.size, (hb.cell (p := ⟨b, off + i, none⟩) h3).trans h2, h4.below hb, h5⟩⟩
theorem Tbl.drewN {w : World} {a : Option Addr} {n : Nat} {xss : List (List Int)} (h : Tbl w a n xss) (k : Nat) : Tbl (w.drewN k) a n xss := h
theorem Tbl.alloc {w : World} {a : Option Addr} {n : Nat} {xss : List (List Int)} (h : Tbl w a n xss) (o : Obj) : Tbl (w.alloc o) a n xss := h.below ((Below.refl _ _).alloc (Nat.le_refl _) o)
theorem Tbl.getD {xss : List (List Int)} {i : Nat} (h : i < xss.length) : xss.getD i [] = xss[i] := by simp [List.getD_eq_getElem?_getD, List.getElem?_eq_getElem h]

theorem tbl3 {w : World} {b : Nat} {a1 a2 a3 : Option Addr} {n1 n2 n3 c1 c2 c3 : Nat} {x1 x2 x3 : List Int} {t : TypeId} (h : Loc w b #[.slice a1 n1 c1, .slice a2 n2 c2, .slice a3 n3 c3] t)
    (h1 : Row w a1 n1 x1) (h2 : Row w a2 n2 x2) (h3 : Row w a3 n3 x3) (l1 : n1 ≤ 9223372036854775807) (l2 : n2 ≤ 9223372036854775807) (l3 : n3 ≤ 9223372036854775807) : Tbl w (some ⟨b, 0, none⟩) 3 [x1, x2, x3] := by
  refine ⟨rfl, fun i hi => ?_⟩
  have hlt := h.lt
  match i, hi with
  | 0, _ => exact ⟨b, 0, a1, n1, c1, rfl, hlt, h.cell 0 rfl, h1, l1⟩
  | 1, _ => exact ⟨b, 0, a2, n2, c2, rfl, hlt, h.cell 1 rfl, h2, l2⟩
  | 2, _ => exact ⟨b, 0, a3, n3, c3, rfl, hlt, h.cell 2 rfl, h3, l3⟩

end Go.Proofs.Ytehomfbehhlhmaa
