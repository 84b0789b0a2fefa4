/-
  Conjugates in a list of permutations, and a table that is read while a block without cells is given up.
  No condition.
-/
import Derived.Test.YtdkpalllfekiiaaGreatIsPb
import Derived.Test.YtdkpalllfekiiaaGreatPrAn
import Derived.Test.YtdkpalllfekiiaaGreatBase
import Derived.Test.YtdkpalllfekiiaaGreatBase2
namespace Go.Proofs.YtdkpalllfekiiaaGreat
set_option linter.unusedVariables false
set_option linter.unusedSimpArgs false
set_option maxRecDepth 100000
open Go.RowKit

/-- the first row of L that is row y, conjugated by row x -/
def cjI (L : List (List Int)) (x y : Nat) : Nat := L.findIdx fun r => decide (r = cjL (L.getD x []) (L.getD y []))
theorem cjI_at {L : List (List Int)} {x y : Nat} (h : cjI L x y < L.length) : L.getD (cjI L x y) [] = cjL (L.getD x []) (L.getD y []) := by
  have t : decide (L[cjI L x y] = cjL (L.getD x []) (L.getD y [])) = true := List.findIdx_getElem (p := fun r => decide (r = cjL (L.getD x []) (L.getD y []))) (xs := L) (w := h)
  rw [List.getD_eq_getElem?_getD (l := L) (i := cjI L x y), List.getElem?_eq_getElem h, Option.getD_some]
  simpa using t
theorem cjI_ne {L : List (List Int)} {x y j : Nat} (h : j < cjI L x y) : L.getD j [] ≠ cjL (L.getD x []) (L.getD y []) := by
  have hl : j < L.length := Nat.lt_of_lt_of_le h List.findIdx_le_length
  have t := List.not_of_lt_findIdx (p := fun r => decide (r = cjL (L.getD x []) (L.getD y []))) (xs := L) h
  rw [List.getD_eq_getElem?_getD (l := L) (i := j), List.getElem?_eq_getElem hl, Option.getD_some]
  simpa using t
def trL : List (List Int) := [[0, 2, 1], [1, 0, 2], [2, 1, 0]]
/-- rows among which conjugates are found -/
structure CjOk (m : Nat) (L : List (List Int)) : Prop where
  len : L.length = m
  isP : ∀ x, x < m → IsP 3 (L.getD x [])
  lt : ∀ x y, x < m → y < m → cjI L x y < m
theorem cj_of {m : Nat} {L : List (List Int)} (hl : L.length = m) (h : ((List.range m).all fun x => isPb 3 (L.getD x []) && (List.range m).all fun y => decide (cjI L x y < m)) = true) : CjOk m L := by
  refine ⟨hl, fun x hx => ?_, fun x y hx hy => ?_⟩
  · have := List.all_eq_true.1 h x (List.mem_range.2 hx)
    rw [Bool.and_eq_true] at this
    exact isPb_ok this.1
  · have := List.all_eq_true.1 h x (List.mem_range.2 hx)
    rw [Bool.and_eq_true] at this
    simpa using List.all_eq_true.1 this.2 y (List.mem_range.2 hy)
theorem cj_prm : CjOk 6 (prmL 3) := cj_of (by decide +kernel) (by decide +kernel)
theorem cj_tr : CjOk 3 trL := cj_of (by decide +kernel) (by decide +kernel)
theorem litT (w : World) (t t' : TypeId) : Tbl ((((w.alloc (.cells #[.int .i64 0, .int .i64 2, .int .i64 1] t)).alloc (.cells #[.int .i64 1, .int .i64 0, .int .i64 2] t)).alloc (.cells #[.int .i64 2, .int .i64 1, .int .i64 0] t)).alloc (.cells #[.slice (some ⟨w.heap.size, 0, none⟩) 3 3, .slice (some ⟨w.heap.size + 1, 0, none⟩) 3 3, .slice (some ⟨w.heap.size + 1 + 1, 0, none⟩) 3 3] t')) (some ⟨w.heap.size + 1 + 1 + 1, 0, none⟩) 3 trL := by
  have h1 := (((Loc.new w rfl #[.int .i64 0, .int .i64 2, .int .i64 1] t).alloc (.cells #[.int .i64 1, .int .i64 0, .int .i64 2] t)).alloc (.cells #[.int .i64 2, .int .i64 1, .int .i64 0] t)).alloc (.cells #[.slice (some ⟨w.heap.size, 0, none⟩) 3 3, .slice (some ⟨w.heap.size + 1, 0, none⟩) 3 3, .slice (some ⟨w.heap.size + 1 + 1, 0, none⟩) 3 3] t')
  have h2 := ((Loc.new (w.alloc (.cells #[.int .i64 0, .int .i64 2, .int .i64 1] t)) (b := w.heap.size + 1) (by simp) #[.int .i64 1, .int .i64 0, .int .i64 2] t).alloc (.cells #[.int .i64 2, .int .i64 1, .int .i64 0] t)).alloc (.cells #[.slice (some ⟨w.heap.size, 0, none⟩) 3 3, .slice (some ⟨w.heap.size + 1, 0, none⟩) 3 3, .slice (some ⟨w.heap.size + 1 + 1, 0, none⟩) 3 3] t')
  have h3 := (Loc.new ((w.alloc (.cells #[.int .i64 0, .int .i64 2, .int .i64 1] t)).alloc (.cells #[.int .i64 1, .int .i64 0, .int .i64 2] t)) (b := w.heap.size + 1 + 1) (by simp) #[.int .i64 2, .int .i64 1, .int .i64 0] t).alloc (.cells #[.slice (some ⟨w.heap.size, 0, none⟩) 3 3, .slice (some ⟨w.heap.size + 1, 0, none⟩) 3 3, .slice (some ⟨w.heap.size + 1 + 1, 0, none⟩) 3 3] t')
  have hh := Loc.new (((w.alloc (.cells #[.int .i64 0, .int .i64 2, .int .i64 1] t)).alloc (.cells #[.int .i64 1, .int .i64 0, .int .i64 2] t)).alloc (.cells #[.int .i64 2, .int .i64 1, .int .i64 0] t)) (b := w.heap.size + 1 + 1 + 1) (by simp) #[.slice (some ⟨w.heap.size, 0, none⟩) 3 3, .slice (some ⟨w.heap.size + 1, 0, none⟩) 3 3, .slice (some ⟨w.heap.size + 1 + 1, 0, none⟩) 3 3] t'
  refine ⟨rfl, fun i hi => ?_⟩
  match i, hi with
  | 0, _ => exact ⟨_, 0, _, 3, 3, rfl, hh.lt, hh.cell 0 rfl, row_loc h1 rfl rfl, by omega⟩
  | 1, _ => exact ⟨_, 0, _, 3, 3, rfl, hh.lt, hh.cell 1 rfl, row_loc h2 rfl rfl, by omega⟩
  | 2, _ => exact ⟨_, 0, _, 3, 3, rfl, hh.lt, hh.cell 2 rfl, row_loc h3 rfl rfl, by omega⟩

theorem cell_mark {w w' : World} {S : Nat → Prop} (hm : Marked S w w') {b o : Nat} (hb : b < w.heap.size) (hS : ¬ S b) : w'.cell? ⟨b, o, none⟩ = w.cell? ⟨b, o, none⟩ := World.cell?_of_block (hm.block b hb hS)
theorem Row.mark0 {w w' : World} {a : Option Addr} {n B0 : Nat} {xs : List Int} (h : Row w a n xs) (hm : Marked (fun g => g = B0) w w') (h0 : ∀ k, w.cell? ⟨B0, k, none⟩ = none) : Row w' a n xs :=
  ⟨h.1, fun i hi => by
    obtain ⟨b, off, h1, h3, h2⟩ := h.2 i hi
    exact ⟨b, off, h1, Nat.lt_of_lt_of_le h3 hm.size, (cell_mark hm h3 (fun e => by have e : b = B0 := e; rw [e, h0] at h2; cases h2)).trans h2⟩⟩
/-- a block without cells is none of a table's -/
theorem Tbl.mark0 {w w' : World} {a : Option Addr} {n B0 : Nat} {xss : List (List Int)} (h : Tbl w a n xss) (hm : Marked (fun g => g = B0) w w') (h0 : ∀ k, w.cell? ⟨B0, k, none⟩ = none) : Tbl w' a n xss :=
  ⟨h.1, fun i hi => by
    obtain ⟨b, off, ai, ni, ci, h1, h3, h2, h4, h5⟩ := h.2 i hi
    exact ⟨b, off, ai, ni, ci, h1, Nat.lt_of_lt_of_le h3 hm.size, (cell_mark hm h3 (fun e => by have e : b = B0 := e; rw [e, h0] at h2; cases h2)).trans h2, h4.mark0 hm h0, h5⟩⟩
theorem loc_none {w : World} {b : Nat} {t : TypeId} (h : Loc w b #[] t) : ∀ k, w.cell? ⟨b, k, none⟩ = none := fun k => by
  unfold Loc at h; simp [World.cell?, h]
end Go.Proofs.YtdkpalllfekiiaaGreat
