/-
  A square of numbers in memory: its rows and its cells.
  No condition.
-/
import Derived.Test.YthkpdodhkgdiaaaSolL
namespace Go.Proofs.Ythkpdodhkgdiaaa
set_option linter.unusedVariables false
set_option linter.unusedSimpArgs false
open Go.RowKit

/-- the square t of n by n numbers lies at (a): its row x at (A x), of capacity C x -/
structure Grid (w : World) (b off : Nat) (A O C : Nat → Nat) (n : Nat) (t : List (List Int)) : Prop where
  lt : b < w.heap.size
  row : ∀ x, x < n → w.cell? ⟨b, off + x, none⟩ = some (.slice (some ⟨A x, O x, none⟩) n (C x))
  rlt : ∀ x, x < n → A x < w.heap.size
  cell : ∀ x y, x < n → y < n → w.cell? ⟨A x, O x + y, none⟩ = some (.int .i64 ((tv t x y : Nat) : Int))

theorem Tbl.grid {w : World} {a : Option Addr} {n : Nat} {t : List (List Int)} (h : Tbl w a n t) (hs : Sq n t) (hn : 0 < n) : ∃ b off A O C, a = some ⟨b, off, none⟩ ∧ Grid w b off A O C n t := by
  obtain ⟨b, off, ai, ni, ci, ha, hb, _⟩ := h.2 0 hn
  have H : ∀ x, ∃ q : Nat × Nat × Nat, x < n → w.cell? ⟨b, off + x, none⟩ = some (.slice (some ⟨q.1, q.2.1, none⟩) n q.2.2) ∧ q.1 < w.heap.size ∧ ∀ y, y < n → w.cell? ⟨q.1, q.2.1 + y, none⟩ = some (.int .i64 ((tv t x y : Nat) : Int)) := by
    intro x
    by_cases hx : x < n
    · obtain ⟨b', off', ax, nx, cx, e, _, hc, hr, _⟩ := h.2 x hx
      rw [ha] at e; cases e
      have hl : nx = n := by rw [hr.len, hs.row hx]
      subst hl
      obtain ⟨bx, ox, e, hbx, hcx⟩ := hr.all hn
      subst e
      exact ⟨(bx, ox, cx), fun _ => ⟨hc, hbx, fun y hy => by rw [hcx y hy, hs.val hx hy]⟩⟩
    · exact ⟨(0, 0, 0), fun h => absurd h hx⟩
  obtain ⟨Q, hQ⟩ := Classical.axiomOfChoice H
  exact ⟨b, off, fun x => (Q x).1, fun x => (Q x).2.1, fun x => (Q x).2.2, ha, hb, fun x hx => (hQ x hx).1, fun x hx => (hQ x hx).2.1, fun x y hx hy => (hQ x hx).2.2 y hy⟩
section
variable {w w' : World} {b off n : Nat} {A O C : Nat → Nat} {t : List (List Int)}
theorem Grid.below (h : Grid w b off A O C n t) (hb : Below w.heap.size w w') : Grid w' b off A O C n t :=
  ⟨Nat.lt_of_lt_of_le h.lt hb.size, fun x hx => (hb.cell (p := ⟨b, off + x, none⟩) h.lt).trans (h.row x hx), fun x hx => Nat.lt_of_lt_of_le (h.rlt x hx) hb.size,
   fun x y hx hy => (hb.cell (p := ⟨A x, O x + y, none⟩) (h.rlt x hx)).trans (h.cell x y hx hy)⟩
theorem Grid.alloc (h : Grid w b off A O C n t) (o : Obj) : Grid (w.alloc o) b off A O C n t := h.below ((Below.refl _ _).alloc (Nat.le_refl _) o)
theorem Grid.drewN (h : Grid w b off A O C n t) (k : Nat) : Grid (w.drewN k) b off A O C n t := ⟨h.lt, h.row, h.rlt, h.cell⟩
/-- a row and a cell of it -/
theorem Grid.look (h : Grid w b off A O C n t) {x y : Nat} (hx : x < n) (hy : y < n) : w.cell? ⟨b, off + x, none⟩ = some (.slice (some ⟨A x, O x, none⟩) n (C x)) ∧ w.cell? ⟨A x, O x + y, none⟩ = some (.int .i64 ((tv t x y : Nat) : Int)) := ⟨h.row x hx, h.cell x y hx hy⟩
end

end Go.Proofs.Ythkpdodhkgdiaaa
