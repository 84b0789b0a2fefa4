/-
  Slices of numbers, as the laws' walks take them: a copy, an equality, a mark, what is held.
  No condition but bounds on lengths.
-/
import Derived.Test.YtehomfbehhlhmaaBraidH
namespace Go.Proofs.Ytehomfbehhlhmaa
set_option maxRecDepth 100000
set_option linter.unusedVariables false
set_option linter.unusedSimpArgs false
open Go.RowKit

/-- g is the slice's block -/
def RowS (a : Option Addr) (g : Nat) : Prop := a = some ⟨g, 0, none⟩
section
variable {w w' : World} {lo : Nat} {a a1 a2 : Option Addr} {n n1 n2 c c1 c2 : Nat} {xs : List Int}
theorem Own.uLo (h : Own w lo a n c xs) : ∀ g, RowS a g → lo ≤ g := h.lo
theorem Own.uHi (h : Own w lo a n c xs) : ∀ g, RowS a g → g < w.heap.size := h.hi
theorem Own.uKeep (h : Own w lo a n c xs) {S : Nat → Prop} (hm : Marked S w w') (hS : ∀ g, RowS a g → ¬ S g) : Own w' lo a n c xs := h.keep fun g hg hlt => hm.block g hlt (hS g hg)

theorem toRow_u (h : Row w a n xs) (hm : n ≤ 1048576) : Calls Try.prog 176 #[.slice a n c] w fun e w' => ∃ a' c', e = .returned (.slice a' n c') ∧ Own w' w.heap.size a' n c' xs ∧ Below w.heap.size w w' :=
  toInt64S_any a n c xs w h hm
theorem eqRow_u (h1 : Row w a1 n1 xs) (h2 : Row w a2 n2 xs) (hm : n1 ≤ 9223372036854775807) : Calls Try.prog 74 #[.slice a1 n1 c1, .slice a2 n2 c2] w fun e w' => e = .returned (.bool true) ∧ Below w.heap.size w w' :=
  (eqInt64S_any a1 a2 n1 n2 c1 c2 xs xs w h1 h2 hm).mono fun e w' ⟨he, m, hb⟩ => ⟨he.trans (ret_bool (by simp)), by rw [hb]; exact below_drewN (Below.refl _ _) m⟩
theorem Marked.touch {S T : Nat → Prop} {w w' : World} (ht : Touch S w w') (hS : ∀ g, S g → T g) : Marked T w w' :=
  ⟨ht.os, ht.tape, ht.output, by rw [ht.size]; exact Nat.le_refl _, fun k _ hs => ht.block k (fun h => hs (hS k h))⟩
theorem markRow_u {k0 : Int} (h : Own w lo a n c xs) (hk0 : 0 ≤ k0) (hm : k0 + n ≤ 9000000000000000000) : Calls Try.prog 75 #[.slice a n c, .int .i64 k0] w fun e w' => e = .returned (.int .i64 (k0 + n)) ∧ Own w' lo a n c (markL k0 n) ∧ Marked (RowS a) w w' :=
  (markInt64S_any a n c lo xs k0 w h hk0 hm).mono fun e w' ⟨he, ho, ht⟩ => ⟨he, ho, Marked.touch ht fun _ h => h⟩
theorem heldRow_u {k0 : Int} (h : Row w a n (markL k0 n)) (hk0 : 0 ≤ k0) (hm : k0 + n ≤ 9000000000000000000) : Calls Try.prog 76 #[.slice a n c, .int .i64 k0] w fun e w' => e = .returned (.int .i64 (k0 + n)) ∧ Below w.heap.size w w' :=
  (heldInt64S_any a n c k0 w h hk0 hm).mono fun e w' ⟨he, m, hb⟩ => ⟨he, by rw [hb]; exact below_drewN (Below.refl _ _) m⟩
end
theorem Marked.trans {S : Nat → Prop} {a b c : World} (h : Marked S a b) (k : Marked S b c) : Marked S a c :=
  ⟨k.os.trans h.os, k.tape.trans h.tape, k.output.trans h.output, Nat.le_trans h.size k.size, fun i hi hs => (k.block i (Nat.lt_of_lt_of_le hi h.size) hs).trans (h.block i hi hs)⟩
theorem Marked.mono {S T : Nat → Prop} {w w' : World} (h : Marked S w w') (hS : ∀ g, S g → T g) : Marked T w w' :=
  ⟨h.os, h.tape, h.output, h.size, fun k hk hs => h.block k hk (fun x => hs (hS k x))⟩
theorem Marked.alloc {S : Nat → Prop} {w w' : World} {o : Obj} (h : Marked S (w.alloc o) w') : Marked S w w' :=
  ⟨h.os, h.tape, h.output, Nat.le_trans (by simp) h.size, fun k hk hs => (h.block k (by simp; omega) hs).trans (Below.heap_alloc _ _ _ hk)⟩
theorem Row.marked {w w' : World} {S : Nat → Prop} {lo : Nat} {a : Option Addr} {n c : Nat} {xs : List Int} (h : Own w lo a n c xs) (hm : Marked S w w') (hS : ∀ g, RowS a g → ¬ S g) : Row w' a n xs := (h.uKeep hm hS).row
theorem Loc.cells1 {w : World} {b : Nat} {x : Value} {t : TypeId} (h : Loc w b #[x] t) : w.cell? ⟨b, 0, none⟩ = some x ∧ w.frozen? ⟨b, 0, none⟩ = false := h.one
theorem Loc.cells2 {w : World} {b : Nat} {x y : Value} {t : TypeId} (h : Loc w b #[x, y] t) : w.cell? ⟨b, 0, none⟩ = some x ∧ w.cell? ⟨b, 1, none⟩ = some y ∧ w.frozen? ⟨b, 0, none⟩ = false ∧ w.frozen? ⟨b, 1, none⟩ = false := h.two
theorem Loc.cells5 {w : World} {b : Nat} {x y z u v : Value} {t : TypeId} (h : Loc w b #[x, y, z, u, v] t) : w.cell? ⟨b, 0, none⟩ = some x ∧ w.cell? ⟨b, 1, none⟩ = some y ∧ w.cell? ⟨b, 2, none⟩ = some z ∧ w.cell? ⟨b, 3, none⟩ = some u ∧ w.cell? ⟨b, 4, none⟩ = some v :=
  ⟨h.cell 0 rfl, h.cell 1 rfl, h.cell 2 rfl, h.cell 3 rfl, h.cell 4 rfl⟩

end Go.Proofs.Ytehomfbehhlhmaa
