/-
  A slice of truths that the call owns.
  No condition.
-/
import Derived.Test.YtfmcaflefiapoaaBase
namespace Go.Proofs.Ytfmcaflefiapoaa
set_option maxRecDepth 100000
set_option linter.unusedVariables false
set_option linter.unusedSimpArgs false
open Go.RowKit

theorem info_bool : (Try.prog.info? 4).map (fun i => (i.zero, i.size, i.bytes)) = some (some (.bool false), 1, 1) := by kernel_rfl
theorem und_bools : Try.prog.underlying 83 = some (.slice 4) := by kernel_rfl

/-! ### A slice of truths that the call owns (its block lies from 'lo' on) -/
def OwnBo (w : World) (lo : Nat) (a : Option Addr) (n c : Nat) (xs : List Bool) : Prop := n = xs.length ∧ w.ownsRow lo 4 1 (.slice a n c) n (xs.map Value.bool)

theorem OwnBo.nil (w : World) (lo : Nat) : OwnBo w lo none 0 0 [] := ⟨rfl, World.ownsRow_nil w lo _ 1⟩
theorem OwnBo.len {w : World} {lo : Nat} {a : Option Addr} {n c : Nat} {xs : List Bool} (h : OwnBo w lo a n c xs) : n = xs.length := h.1
theorem OwnBo.alloc {w : World} {lo : Nat} {a : Option Addr} {n c : Nat} {xs : List Bool} (h : OwnBo w lo a n c xs) (o : Obj) : OwnBo (w.alloc o) lo a n c xs := ⟨h.1, h.2.alloc o⟩
theorem OwnBo.drew {w : World} {lo : Nat} {a : Option Addr} {n c : Nat} {xs : List Bool} (h : OwnBo w lo a n c xs) : OwnBo w.drew lo a n c xs := h
theorem OwnBo.drewN {w : World} {lo : Nat} {a : Option Addr} {n c : Nat} {xs : List Bool} (h : OwnBo w lo a n c xs) (k : Nat) : OwnBo (w.drewN k) lo a n c xs := h
/-- the block of a slice that is owned -/
theorem OwnBo.block {w : World} {lo : Nat} {a : Option Addr} {n c : Nat} {xs : List Bool} (h : OwnBo w lo a n c xs) : (a = none ∧ n = 0 ∧ c = 0) ∨ ∃ g cur, a = some ⟨g, 0, none⟩ ∧ lo ≤ g ∧ Loc w g cur 4 ∧ n ≤ c ∧ c ≤ maxLen ∧ cur.size = c ∧ cur.toList.take n = xs.map Value.bool := by
  rcases h.2.2 with ⟨h1, h2⟩ | ⟨g, cap, cur, h1, h2, h3, h4, h5, h6, h7⟩
  · cases h1; exact .inl ⟨rfl, rfl, rfl⟩
  · cases h1; exact .inr ⟨g, cur, rfl, h2, h3, h4, h5, by simpa using h6, by simpa using h7⟩
theorem OwnBo.mk {w : World} {lo : Nat} {g n c : Nat} {xs : List Bool} {cur : Array Value} (hn : n = xs.length) (h1 : lo ≤ g) (h2 : Loc w g cur 4) (h3 : n ≤ c) (h4 : c ≤ maxLen) (h5 : cur.size = c) (h6 : cur.toList.take n = xs.map Value.bool) : OwnBo w lo (some ⟨g, 0, none⟩) n c xs :=
  ⟨hn, by simp [hn], .inr ⟨g, c, cur, rfl, h1, h2, h3, h4, by simpa using h5, by simpa using h6⟩⟩
theorem OwnBo.lt {w : World} {lo : Nat} {g o n c : Nat} {xs : List Bool} (h : OwnBo w lo (some ⟨g, o, none⟩) n c xs) : lo ≤ g ∧ g < w.heap.size := by
  rcases h.block with ⟨h1, _⟩ | ⟨g', cur, h1, h2, h3, _⟩
  · cases h1
  · cases h1; exact ⟨h2, h3.lt⟩
theorem OwnBo.mono {w : World} {lo lo' : Nat} {a : Option Addr} {n c : Nat} {xs : List Bool} (h : OwnBo w lo a n c xs) (hl : lo' ≤ lo) : OwnBo w lo' a n c xs := by
  rcases h.block with ⟨rfl, rfl, rfl⟩ | ⟨g, cur, rfl, h2, h3, h4, h5, h6, h7⟩
  · have : xs = [] := List.eq_nil_of_length_eq_zero h.1.symm
    subst this; exact OwnBo.nil _ _
  · exact OwnBo.mk h.1 (by omega) h3 h4 h5 h6 h7
theorem OwnBo.keep {w w' : World} {lo : Nat} {a : Option Addr} {n c : Nat} {xs : List Bool} (h : OwnBo w lo a n c xs) (hk : ∀ g, a = some ⟨g, 0, none⟩ → g < w.heap.size → w'.heap[g]? = w.heap[g]?) : OwnBo w' lo a n c xs := by
  rcases h.block with ⟨rfl, rfl, rfl⟩ | ⟨g, cur, rfl, h2, h3, h4, h5, h6, h7⟩
  · have : xs = [] := List.eq_nil_of_length_eq_zero h.1.symm
    subst this; exact OwnBo.nil _ _
  · exact OwnBo.mk h.1 h2 ((hk g rfl h3.lt).trans h3) h4 h5 h6 h7
theorem OwnBo.below {w w' : World} {lo : Nat} {a : Option Addr} {n c : Nat} {xs : List Bool} (h : OwnBo w lo a n c xs) (hb : Below w.heap.size w w') : OwnBo w' lo a n c xs := h.keep fun g _ hlt => hb.block g hlt
theorem OwnBo.setne {w : World} {lo : Nat} {a : Option Addr} {n c : Nat} {xs : List Bool} (h : OwnBo w lo a n c xs) {p : Addr} (hp : ∀ g, a = some ⟨g, 0, none⟩ → g ≠ p.block) (u : Value) : OwnBo (w.setCell p u) lo a n c xs := h.keep fun g hg _ => Below.heap_setCell _ _ _ _ (hp g hg)
theorem OwnBo.setlo {w : World} {lo : Nat} {a : Option Addr} {n c : Nat} {xs : List Bool} (h : OwnBo w lo a n c xs) {p : Addr} (hp : p.block < lo) (u : Value) : OwnBo (w.setCell p u) lo a n c xs := by
  refine h.setne (fun g hg => ?_) u
  subst hg; have := h.lt; omega
theorem OwnBo.grown {w w' : World} {lo : Nat} {a : Option Addr} {n c : Nat} {xs : List Bool} {row : Option Nat} (h : OwnBo w lo a n c xs) (hg : w.grownBy w' row) (hne : ∀ g, a = some ⟨g, 0, none⟩ → some g ≠ row) : OwnBo w' lo a n c xs := h.keep fun g hg' hlt => hg.block g hlt (hne g hg')
theorem OwnBo.cap {w : World} {lo : Nat} {a : Option Addr} {n c : Nat} {xs : List Bool} (h : OwnBo w lo a n c xs) : n ≤ c ∧ c ≤ 9223372036854775807 := by
  rcases h.block with ⟨rfl, rfl, rfl⟩ | ⟨g, cur, rfl, h2, h3, h4, h5, h6, h7⟩
  · omega
  · unfold maxLen at h5; omega
theorem OwnBo.cells {w : World} {lo : Nat} {g o n c : Nat} {xs : List Bool} (h : OwnBo w lo (some ⟨g, o, none⟩) n c xs) : o = 0 ∧ (∀ i, i < n → w.cell? ⟨g, i, none⟩ = some (.bool (xs.getD i false))) ∧ (∀ i, w.frozen? ⟨g, i, none⟩ = false) := by
  rcases h.block with ⟨h1, _⟩ | ⟨g', cur, h1, h2, h3, h4, h5, h6, h7⟩
  · cases h1
  · cases h1
    refine ⟨rfl, fun i hi => h3.cell i ?_, fun i => h3.free i⟩
    have hx : (cur.toList.take n)[i]? = (xs.map Value.bool)[i]? := by rw [h7]
    have hxi : i < xs.length := by have := h.1; omega
    rw [List.getElem?_take, if_pos hi] at hx
    simp [List.getElem?_eq_getElem hxi] at hx
    simp [List.getD_eq_getElem?_getD, List.getElem?_eq_getElem hxi, hx]
/-- a store into a slice that is owned -/
theorem OwnBo.set {w : World} {lo : Nat} {g n c : Nat} {xs : List Bool} (h : OwnBo w lo (some ⟨g, 0, none⟩) n c xs) (i : Nat) (x : Bool) : OwnBo (w.setCell ⟨g, i, none⟩ (.bool x)) lo (some ⟨g, 0, none⟩) n c (xs.set i x) := by
  rcases h.block with ⟨h1, _⟩ | ⟨g', cur, h1, h2, h3, h4, h5, h6, h7⟩
  · cases h1
  · cases h1
    refine OwnBo.mk (by simp [h.1]) h2 (h3.set i _) h4 h5 (by simpa using h6) ?_
    rw [Array.toList_setIfInBounds, List.take_set, h7, List.map_set]

theorem OwnBo.hi {w : World} {lo : Nat} {a : Option Addr} {n c : Nat} {xs : List Bool} (h : OwnBo w lo a n c xs) : ∀ g, a = some ⟨g, 0, none⟩ → g < w.heap.size := fun g hg => by subst hg; exact h.lt.2
theorem OwnBo.lo {w : World} {lo : Nat} {a : Option Addr} {n c : Nat} {xs : List Bool} (h : OwnBo w lo a n c xs) : ∀ g, a = some ⟨g, 0, none⟩ → lo ≤ g := fun g hg => by subst hg; exact h.lt.1

/-- make of n numbers -/
theorem makeBo {ops : Array Oper} {rest : List Oper} {o : Oper} {a : Act} {Q : Exit → Act → World → Prop} {w : World} (hgd : o.guard = none) {l c : Operand}
    (ho : o.op = Op.makeSlice 83 l c) {n : Nat} (hl : a.eval l = .int .i64 n) (hc : a.eval c = .int .i64 n) (hn : n ≤ 1000000000000)
    (h : ∀ w', OwnBo w' w.heap.size (some ⟨w.heap.size, 0, none⟩) n n (List.replicate n false) → w.heap.size < w'.heap.size → Below w.heap.size w w' → wpList Try.prog ops Q rest (a.put o.dst (.slice (some ⟨w.heap.size, 0, none⟩) n n)) w') :
    wpList Try.prog ops Q (o :: rest) a w := by
  obtain ⟨i0, hi, hz0, hz1, hz2⟩ := info_parts info_bool
  refine wpList_make_full w hgd l c 83 ho w.heap.size 4 i0 (.bool false) 1 und_bools hi hz0 hz1 .i64 .i64 n n n hl hc rfl rfl (by rw [hz2]; omega) (by unfold maxLen; omega) (Nat.le_refl _) ?_
  intro w' ho' hg
  refine h w' ⟨by simp, ?_⟩ ?_ ((Below.refl _ _).grown hg (Nat.le_refl _) (by simp))
  · have e : (madeCells (Value.bool false).cells (n * 1)).toList = (List.replicate n false).map Value.bool := by
      rw [Nat.mul_one, List.map_replicate]; exact toList_madeCells_one _ _
    rw [e] at ho'; exact ho'
  · rcases ho'.2 with ⟨h1, _⟩ | ⟨g, cap, cur, h1, h2, h3, _⟩
    · cases h1
    · cases h1; exact lt_of_block h3

end Go.Proofs.Ytfmcaflefiapoaa
