/-
  Walks and plain laws of this seat, some texts in one.
  No condition but bounds on lengths.
-/
import Derived.Test.YtaddclaadbjnlaaGreatRows
import Derived.WalkKit
import Derived.WalkSpells
import Derived.WalkLawsBesides
import Derived.Deep.QuietTactic
import Derived.BigQuiet
import Derived.Lib.Hide
import Derived.Deep.Draws
import Derived.Lib.SliceRun
import Derived.Deep.RegionLaw
import Derived.BigRegion
namespace Go.Proofs.YtaddclaadbjnlaaGreat
set_option linter.unusedVariables false
set_option linter.unusedSimpArgs false
open Go.RowKit
theorem info_int : (Tryz.prog.info? 2).map (fun i => (i.zero, i.size, i.bytes)) = some (some (.int .i64 0), 1, 8) := by kernel_rfl
theorem und_ints : Tryz.prog.underlying 41 = some (.slice 2) := by kernel_rfl
theorem ret_bool {a b : Bool} (h : a = b) : Ending.returned (.bool a) = .returned (.bool b) := by rw [h]
theorem ret_int {k : IntKind} {a b : Int} (h : a = b) : Ending.returned (.int k a) = .returned (.int k b) := by rw [h]
/-! ### A block of the call's own -/
def Loc (w : World) (b : Nat) (cs : Array Value) (t : TypeId) : Prop := w.heap[b]? = some (.cells cs t (0, 0))
theorem Loc.cell {w : World} {b : Nat} {cs : Array Value} {t : TypeId} (h : Loc w b cs t) (i : Nat) {v : Value} (hi : cs[i]? = some v) : w.cell? ⟨b, i, none⟩ = some v := by
  unfold Loc at h; simp [World.cell?, h, hi]
theorem Loc.free {w : World} {b : Nat} {cs : Array Value} {t : TypeId} (h : Loc w b cs t) (i : Nat) : w.frozen? ⟨b, i, none⟩ = false := by
  unfold Loc at h; simp [World.frozen?, h]
theorem Loc.lt {w : World} {b : Nat} {cs : Array Value} {t : TypeId} (h : Loc w b cs t) : b < w.heap.size := lt_of_block h
theorem Loc.new (w : World) {b : Nat} (hb : b = w.heap.size) (cs : Array Value) (t : TypeId) : Loc (w.alloc (.cells cs t)) b cs t := by
  subst hb; exact heap_alloc_new w _
theorem Loc.alloc {w : World} {b : Nat} {cs : Array Value} {t : TypeId} (h : Loc w b cs t) (o : Obj) : Loc (w.alloc o) b cs t :=
  ((Below.heap_alloc w o b h.lt)).trans h
theorem Loc.drew {w : World} {b : Nat} {cs : Array Value} {t : TypeId} (h : Loc w b cs t) : Loc w.drew b cs t := h
theorem Loc.drewN {w : World} {b : Nat} {cs : Array Value} {t : TypeId} (h : Loc w b cs t) (n : Nat) : Loc (w.drewN n) b cs t := h
theorem Loc.set {w : World} {b : Nat} {cs : Array Value} {t : TypeId} (h : Loc w b cs t) (i : Nat) (u : Value) : Loc (w.setCell ⟨b, i, none⟩ u) b (cs.setIfInBounds i u) t := by
  have hlt := h.lt
  unfold Loc at *
  have h' : w.heap[b] = .cells cs t (0, 0) := by simpa [Array.getElem?_eq_getElem hlt] using h
  show (w.heap.modify b _)[b]? = _
  rw [Array.getElem?_eq_getElem (by simpa using hlt), Array.getElem_modify_self, h']
  rfl
theorem Loc.setne {w : World} {b : Nat} {cs : Array Value} {t : TypeId} (h : Loc w b cs t) {a : Addr} (hb : b ≠ a.block) (u : Value) : Loc (w.setCell a u) b cs t :=
  (Below.heap_setCell w a u b hb).trans h
theorem Loc.below {w w' : World} {B b : Nat} {cs : Array Value} {t : TypeId} (h : Loc w b cs t) (hb : Below B w w') (hlt : b < B) : Loc w' b cs t := (hb.block b hlt).trans h
theorem Loc.grown {w w' : World} {b : Nat} {row : Option Nat} {cs : Array Value} {t : TypeId} (h : Loc w b cs t) (hg : w.grownBy w' row) (hne : some b ≠ row) : Loc w' b cs t := (hg.block b h.lt hne).trans h
theorem below_setne {w w' : World} {B : Nat} (h : Below B w w') {a : Addr} (ha : B ≤ a.block) (u : Value) : Below B w (w'.setCell a u) := h.setCell ha u
theorem cell_setne {w : World} {p a : Addr} {v : Value} (h : w.cell? p = some v) (hne : p.block ≠ a.block) (u : Value) : (w.setCell a u).cell? p = some v :=
  (World.cell?_of_block (Below.heap_setCell w a u p.block hne)).trans h
theorem size_set (w : World) (a : Addr) (u : Value) : (w.setCell a u).heap.size = w.heap.size := by simp [World.setCell]
theorem below_al {w0 w : World} (h : Below w0.heap.size w0 w) (o : Obj) : Below w0.heap.size w0 (w.alloc o) := h.alloc h.size o
theorem below_th {w0 w w' : World} (h : Below w0.heap.size w0 w) (k : Below w.heap.size w w') : Below w0.heap.size w0 w' := h.trans (k.mono h.size)
theorem below_alth {w0 w w' : World} {o : Obj} (h : Below w0.heap.size w0 w) (k : Below (w.alloc o).heap.size (w.alloc o) w') : Below w0.heap.size w0 w' := below_th (below_al h o) k
theorem size_alloc (w : World) (o : Obj) : (w.alloc o).heap.size = w.heap.size + 1 := by simp
theorem Loc.one {w : World} {b : Nat} {x : Value} {t : TypeId} (h : Loc w b #[x] t) : w.cell? ⟨b, 0, none⟩ = some x ∧ w.frozen? ⟨b, 0, none⟩ = false := ⟨h.cell 0 rfl, h.free 0⟩
theorem Loc.two {w : World} {b : Nat} {x y : Value} {t : TypeId} (h : Loc w b #[x, y] t) : w.cell? ⟨b, 0, none⟩ = some x ∧ w.cell? ⟨b, 1, none⟩ = some y ∧ w.frozen? ⟨b, 0, none⟩ = false ∧ w.frozen? ⟨b, 1, none⟩ = false :=
  ⟨h.cell 0 rfl, h.cell 1 rfl, h.free 0, h.free 1⟩
theorem Loc.three {w : World} {b : Nat} {x y z : Value} {t : TypeId} (h : Loc w b #[x, y, z] t) : w.cell? ⟨b, 0, none⟩ = some x ∧ w.cell? ⟨b, 1, none⟩ = some y ∧ w.cell? ⟨b, 2, none⟩ = some z ∧ w.frozen? ⟨b, 0, none⟩ = false ∧ w.frozen? ⟨b, 1, none⟩ = false ∧ w.frozen? ⟨b, 2, none⟩ = false :=
  ⟨h.cell 0 rfl, h.cell 1 rfl, h.cell 2 rfl, h.free 0, h.free 1, h.free 2⟩
/-! ### A slice of numbers that is read -/
def Row (w : World) (a : Option Addr) (n : Nat) (xs : List Int) : Prop :=
  n = xs.length ∧ ∀ i, i < n → ∃ b off, a = some ⟨b, off, none⟩ ∧ b < w.heap.size ∧ w.cell? ⟨b, off + i, none⟩ = some (.int .i64 (xs.getD i 0))
theorem Row.nil (w : World) (a : Option Addr) : Row w a 0 [] := ⟨rfl, fun i h => absurd h (by omega)⟩
theorem Row.len {w : World} {a : Option Addr} {n : Nat} {xs : List Int} (h : Row w a n xs) : n = xs.length := h.1
theorem Row.at {w : World} {a : Option Addr} {n : Nat} {xs : List Int} (h : Row w a n xs) (i : Nat) (hi : i < n) : ∃ b off, a = some ⟨b, off, none⟩ ∧ w.cell? ⟨b, off + i, none⟩ = some (.int .i64 (xs.getD i 0)) := by
  obtain ⟨b, off, h1, _, h2⟩ := h.2 i hi; exact ⟨b, off, h1, h2⟩
theorem Row.all {w : World} {a : Option Addr} {n : Nat} {xs : List Int} (h : Row w a n xs) (hn : 0 < n) : ∃ b off, a = some ⟨b, off, none⟩ ∧ b < w.heap.size ∧ ∀ i, i < n → w.cell? ⟨b, off + i, none⟩ = some (.int .i64 (xs.getD i 0)) := by
  obtain ⟨b, off, h1, h3, h2⟩ := h.2 0 hn
  refine ⟨b, off, h1, h3, fun i hi => ?_⟩
  obtain ⟨b', off', h4, _, h5⟩ := h.2 i hi
  rw [h1] at h4; cases h4; exact h5
theorem Row.below {w w' : World} {a : Option Addr} {n : Nat} {xs : List Int} (h : Row w a n xs) (hb : Below w.heap.size w w') : Row w' a n xs :=
  ⟨h.1, fun i hi => by obtain ⟨b, off, h1, h3, h2⟩ := h.2 i hi; exact ⟨b, off, h1, Nat.lt_of_lt_of_le h3 hb.size, (hb.cell (p := ⟨b, off + i, none⟩) h3).trans h2⟩⟩
theorem Row.drewN {w : World} {a : Option Addr} {n : Nat} {xs : List Int} (h : Row w a n xs) (k : Nat) : Row (w.drewN k) a n xs := h
theorem Row.alloc {w : World} {a : Option Addr} {n : Nat} {xs : List Int} (h : Row w a n xs) (o : Obj) : Row (w.alloc o) a n xs := h.below ((Below.refl _ _).alloc (Nat.le_refl _) o)
/-! ### A slice of numbers that the call owns (its block lies from 'lo' on) -/
def Own (w : World) (lo : Nat) (a : Option Addr) (n c : Nat) (xs : List Int) : Prop := n = xs.length ∧ w.ownsRow lo 2 1 (.slice a n c) n (xs.map (.int .i64))
theorem Own.nil (w : World) (lo : Nat) : Own w lo none 0 0 [] := ⟨rfl, World.ownsRow_nil w lo _ 1⟩
theorem Own.len {w : World} {lo : Nat} {a : Option Addr} {n c : Nat} {xs : List Int} (h : Own w lo a n c xs) : n = xs.length := h.1
theorem Own.alloc {w : World} {lo : Nat} {a : Option Addr} {n c : Nat} {xs : List Int} (h : Own w lo a n c xs) (o : Obj) : Own (w.alloc o) lo a n c xs := ⟨h.1, h.2.alloc o⟩
theorem Own.drew {w : World} {lo : Nat} {a : Option Addr} {n c : Nat} {xs : List Int} (h : Own w lo a n c xs) : Own w.drew lo a n c xs := h
theorem Own.drewN {w : World} {lo : Nat} {a : Option Addr} {n c : Nat} {xs : List Int} (h : Own w lo a n c xs) (k : Nat) : Own (w.drewN k) lo a n c xs := h
theorem Own.block {w : World} {lo : Nat} {a : Option Addr} {n c : Nat} {xs : List Int} (h : Own w lo a n c xs) : (a = none ∧ n = 0 ∧ c = 0) ∨ ∃ g cur, a = some ⟨g, 0, none⟩ ∧ lo ≤ g ∧ Loc w g cur 2 ∧ n ≤ c ∧ c ≤ maxLen ∧ cur.size = c ∧ cur.toList.take n = xs.map (.int .i64) := by
  rcases h.2.2 with ⟨h1, h2⟩ | ⟨g, cap, cur, h1, h2, h3, h4, h5, h6, h7⟩
  · cases h1; exact .inl ⟨rfl, rfl, rfl⟩
  · cases h1; exact .inr ⟨g, cur, rfl, h2, h3, h4, h5, by simpa using h6, by simpa using h7⟩
theorem Own.mk {w : World} {lo : Nat} {g n c : Nat} {xs : List Int} {cur : Array Value} (hn : n = xs.length) (h1 : lo ≤ g) (h2 : Loc w g cur 2) (h3 : n ≤ c) (h4 : c ≤ maxLen) (h5 : cur.size = c) (h6 : cur.toList.take n = xs.map (.int .i64)) : Own w lo (some ⟨g, 0, none⟩) n c xs :=
  ⟨hn, by simp [hn], .inr ⟨g, c, cur, rfl, h1, h2, h3, h4, by simpa using h5, by simpa using h6⟩⟩
theorem Own.lt {w : World} {lo : Nat} {g o n c : Nat} {xs : List Int} (h : Own w lo (some ⟨g, o, none⟩) n c xs) : lo ≤ g ∧ g < w.heap.size := by
  rcases h.block with ⟨h1, _⟩ | ⟨g', cur, h1, h2, h3, _⟩
  · cases h1
  · cases h1; exact ⟨h2, h3.lt⟩
theorem Own.mono {w : World} {lo lo' : Nat} {a : Option Addr} {n c : Nat} {xs : List Int} (h : Own w lo a n c xs) (hl : lo' ≤ lo) : Own w lo' a n c xs := by
  rcases h.block with ⟨rfl, rfl, rfl⟩ | ⟨g, cur, rfl, h2, h3, h4, h5, h6, h7⟩
  · have : xs = [] := List.eq_nil_of_length_eq_zero h.1.symm
    subst this; exact Own.nil _ _
  · exact Own.mk h.1 (by omega) h3 h4 h5 h6 h7
theorem Own.keep {w w' : World} {lo : Nat} {a : Option Addr} {n c : Nat} {xs : List Int} (h : Own w lo a n c xs) (hk : ∀ g, a = some ⟨g, 0, none⟩ → g < w.heap.size → w'.heap[g]? = w.heap[g]?) : Own w' lo a n c xs := by
  rcases h.block with ⟨rfl, rfl, rfl⟩ | ⟨g, cur, rfl, h2, h3, h4, h5, h6, h7⟩
  · have : xs = [] := List.eq_nil_of_length_eq_zero h.1.symm
    subst this; exact Own.nil _ _
  · exact Own.mk h.1 h2 ((hk g rfl h3.lt).trans h3) h4 h5 h6 h7
theorem Own.below {w w' : World} {lo : Nat} {a : Option Addr} {n c : Nat} {xs : List Int} (h : Own w lo a n c xs) (hb : Below w.heap.size w w') : Own w' lo a n c xs := h.keep fun g _ hlt => hb.block g hlt
theorem Own.setne {w : World} {lo : Nat} {a : Option Addr} {n c : Nat} {xs : List Int} (h : Own w lo a n c xs) {p : Addr} (hp : ∀ g, a = some ⟨g, 0, none⟩ → g ≠ p.block) (u : Value) : Own (w.setCell p u) lo a n c xs := h.keep fun g hg _ => Below.heap_setCell _ _ _ _ (hp g hg)
theorem Own.setlo {w : World} {lo : Nat} {a : Option Addr} {n c : Nat} {xs : List Int} (h : Own w lo a n c xs) {p : Addr} (hp : p.block < lo) (u : Value) : Own (w.setCell p u) lo a n c xs := by
  refine h.setne (fun g hg => ?_) u
  subst hg; have := h.lt; omega
theorem Own.grown {w w' : World} {lo : Nat} {a : Option Addr} {n c : Nat} {xs : List Int} {row : Option Nat} (h : Own w lo a n c xs) (hg : w.grownBy w' row) (hne : ∀ g, a = some ⟨g, 0, none⟩ → some g ≠ row) : Own w' lo a n c xs := h.keep fun g hg' hlt => hg.block g hlt (hne g hg')
theorem Own.cap {w : World} {lo : Nat} {a : Option Addr} {n c : Nat} {xs : List Int} (h : Own w lo a n c xs) : n ≤ c ∧ c ≤ 9223372036854775807 := by
  rcases h.block with ⟨rfl, rfl, rfl⟩ | ⟨g, cur, rfl, h2, h3, h4, h5, h6, h7⟩
  · omega
  · unfold maxLen at h5; omega
theorem Own.cells {w : World} {lo : Nat} {g o n c : Nat} {xs : List Int} (h : Own w lo (some ⟨g, o, none⟩) n c xs) : o = 0 ∧ (∀ i, i < n → w.cell? ⟨g, i, none⟩ = some (.int .i64 (xs.getD i 0))) ∧ (∀ i, w.frozen? ⟨g, i, none⟩ = false) := by
  rcases h.block with ⟨h1, _⟩ | ⟨g', cur, h1, h2, h3, h4, h5, h6, h7⟩
  · cases h1
  · cases h1
    refine ⟨rfl, fun i hi => h3.cell i ?_, fun i => h3.free i⟩
    have hx : (cur.toList.take n)[i]? = (xs.map (Value.int .i64))[i]? := by rw [h7]
    have hxi : i < xs.length := by have := h.1; omega
    rw [List.getElem?_take, if_pos hi] at hx
    simp [List.getElem?_eq_getElem hxi] at hx
    simp [List.getD_eq_getElem?_getD, List.getElem?_eq_getElem hxi, hx]
theorem Own.row {w : World} {lo : Nat} {a : Option Addr} {n c : Nat} {xs : List Int} (h : Own w lo a n c xs) : Row w a n xs := by
  refine ⟨h.1, fun i hi => ?_⟩
  rcases h.block with ⟨rfl, rfl, rfl⟩ | ⟨g, cur, rfl, h2, h3, _⟩
  · omega
  · exact ⟨g, 0, rfl, h3.lt, by simpa using h.cells.2.1 i hi⟩
theorem Own.set {w : World} {lo : Nat} {g n c : Nat} {xs : List Int} (h : Own w lo (some ⟨g, 0, none⟩) n c xs) (i : Nat) (x : Int) : Own (w.setCell ⟨g, i, none⟩ (.int .i64 x)) lo (some ⟨g, 0, none⟩) n c (xs.set i x) := by
  rcases h.block with ⟨h1, _⟩ | ⟨g', cur, h1, h2, h3, h4, h5, h6, h7⟩
  · cases h1
  · cases h1
    refine Own.mk (by simp [h.1]) h2 (h3.set i _) h4 h5 (by simpa using h6) ?_
    rw [Array.toList_setIfInBounds, List.take_set, h7, List.map_set]
theorem Own.hi {w : World} {lo : Nat} {a : Option Addr} {n c : Nat} {xs : List Int} (h : Own w lo a n c xs) : ∀ g, a = some ⟨g, 0, none⟩ → g < w.heap.size := fun g hg => by subst hg; exact h.lt.2
theorem Own.lo {w : World} {lo : Nat} {a : Option Addr} {n c : Nat} {xs : List Int} (h : Own w lo a n c xs) : ∀ g, a = some ⟨g, 0, none⟩ → lo ≤ g := fun g hg => by subst hg; exact h.lt.1
theorem app1 {ops : Array Oper} {rest : List Oper} {o : Oper} {a : Act} {Q : Exit → Act → World → Prop} {w : World} (hgd : o.guard = none) {s x : Operand}
    (ho : o.op = .call { callee := .builtin .append, args := #[s, x], argTypes := #[41, 41] }) {lo : Nat} {ad : Option Addr} {n c : Nat} {xs : List Int} (hown : Own w lo ad n c xs) (hs : a.eval s = .slice ad n c)
    {y : Int} {t : TypeId} (hx : a.eval x = .slice (some ⟨w.heap.size, 0, none⟩) 1 1) (hlen : n + 1 ≤ 1000000000000) (hlo : lo ≤ w.heap.size)
    (h : ∀ g c' w', Own w' lo (some ⟨g, 0, none⟩) (n + 1) c' (xs ++ [y]) → w.grownBy w' (Value.slice ad n c).ownBlock → w.heap.size < w'.heap.size → Below lo w w' → wpList Tryz.prog ops Q rest (a.put o.dst (.slice (some ⟨g, 0, none⟩) (n + 1) c')) w') :
    wpList Tryz.prog ops Q (o :: rest) a (w.alloc (.cells #[.int .i64 y] t)) := by
  obtain ⟨i0, hi, hz0, hz1, hz2⟩ := info_parts info_int
  obtain ⟨hn, hown⟩ := hown
  refine wpList_append_own _ hgd s x 41 ho lo 2 i0 (.int .i64 0) 1 8 und_ints hi hz0 hz1 hz2 rfl (by decide) _ n (xs.map (.int .i64)) hs (hown.alloc _) ⟨w.heap.size, 0, none⟩ 1 1 [.int .i64 y] hx rfl (cell_one_new _ _ _) ?_ ?_ ?_ ?_ ?_
  · intro u hu; simp at hu; subst hu; rfl
  · unfold maxLen; omega
  · omega
  · simp; omega
  · intro v' w' ho' hg hv'
    have hg' : w.grownBy w' (Value.slice ad n c).ownBlock := by
      have h1 := World.grownBy_alloc w (.cells #[.int .i64 y] t) (Value.slice ad n c).ownBlock
      exact ⟨hg.os.trans h1.os, hg.tape.trans h1.tape, hg.output.trans h1.output, Nat.le_trans h1.size hg.size, fun k hk hn => (hg.block k (by have := h1.size; omega) hn).trans (h1.block k hk hn)⟩
    obtain ⟨hl, h2⟩ := ho'
    rcases h2 with ⟨rfl, h2⟩ | ⟨g, cap, cur, rfl, h2⟩
    · simp at h2
    · refine h g cap w' ⟨by simp [hn], by simpa using hl, .inr ⟨g, cap, cur, rfl, ?_⟩⟩ hg' ?_ ?_
      · simpa using h2
      · have := hg.size; simp at this; omega
      · exact (Below.refl _ _).grown hg' hlo (fun k hk => (World.ownsRow.lt hown k hk).1)
theorem make1 {ops : Array Oper} {rest : List Oper} {o : Oper} {a : Act} {Q : Exit → Act → World → Prop} {w : World} (hgd : o.guard = none) {l c : Operand}
    (ho : o.op = Op.makeSlice 41 l c) {n : Nat} (hl : a.eval l = .int .i64 n) (hc : a.eval c = .int .i64 n) (hn : n ≤ 1000000000000)
    (h : ∀ w', Own w' w.heap.size (some ⟨w.heap.size, 0, none⟩) n n (List.replicate n 0) → w.heap.size < w'.heap.size → Below w.heap.size w w' → wpList Tryz.prog ops Q rest (a.put o.dst (.slice (some ⟨w.heap.size, 0, none⟩) n n)) w') :
    wpList Tryz.prog ops Q (o :: rest) a w := by
  obtain ⟨i0, hi, hz0, hz1, hz2⟩ := info_parts info_int
  refine wpList_make_full w hgd l c 41 ho w.heap.size 2 i0 (.int .i64 0) 1 und_ints hi hz0 hz1 .i64 .i64 n n n hl hc rfl rfl (by rw [hz2]; omega) (by unfold maxLen; omega) (Nat.le_refl _) ?_
  intro w' ho' hg
  refine h w' ⟨by simp, ?_⟩ ?_ ((Below.refl _ _).grown hg (Nat.le_refl _) (by simp))
  · have e : (madeCells (Value.int IntKind.i64 0).cells (n * 1)).toList = (List.replicate n (0 : Int)).map (.int .i64) := by
      rw [Nat.mul_one, List.map_replicate]; exact toList_madeCells_one _ _
    rw [e] at ho'; exact ho'
  · rcases ho'.2 with ⟨h1, _⟩ | ⟨g, cap, cur, h1, h2, h3, _⟩
    · cases h1
    · cases h1; exact lt_of_block h3
end Go.Proofs.YtaddclaadbjnlaaGreat

namespace Go.Proofs.YtaddclaadbjnlaaGreat
set_option maxRecDepth 100000
set_option linter.unusedVariables false
set_option linter.unusedSimpArgs false
open Go.RowKit
structure Touch (S : Nat → Prop) (w w' : World) : Prop where
  os : w'.os = w.os
  tape : w'.tape = w.tape
  output : w'.output = w.output
  size : w'.heap.size = w.heap.size
  block : ∀ k, ¬ S k → w'.heap[k]? = w.heap[k]?
theorem Touch.refl (S : Nat → Prop) (w : World) : Touch S w w := ⟨rfl, rfl, rfl, rfl, fun _ _ => rfl⟩
theorem Touch.trans {S : Nat → Prop} {a b c : World} (h : Touch S a b) (k : Touch S b c) : Touch S a c :=
  ⟨k.os.trans h.os, k.tape.trans h.tape, k.output.trans h.output, k.size.trans h.size, fun i hi => (k.block i hi).trans (h.block i hi)⟩
theorem Touch.set {S : Nat → Prop} {a b : World} (h : Touch S a b) {p : Addr} (hp : S p.block) (u : Value) : Touch S a (b.setCell p u) :=
  h.trans ⟨rfl, rfl, rfl, by simp [World.setCell], fun k hk => Below.heap_setCell _ _ _ _ (fun e => hk (e ▸ hp))⟩
theorem Touch.mono {S T : Nat → Prop} {a b : World} (h : Touch S a b) (hS : ∀ k, S k → T k) : Touch T a b := ⟨h.os, h.tape, h.output, h.size, fun k hk => h.block k (fun hs => hk (hS k hs))⟩
theorem Touch.drewN {S : Nat → Prop} {a b : World} (h : Touch S a b) (n : Nat) : Touch S a (b.drewN n) := ⟨h.os, h.tape, h.output, h.size, h.block⟩
theorem Touch.below {S : Nat → Prop} {B : Nat} {a b c : World} (h : Below B a b) (ht : Touch S b c) (hS : ∀ k, S k → B ≤ k) : Below B a c :=
  h.trans ⟨ht.os, ht.tape, ht.output, by rw [ht.size]; exact Nat.le_refl _, fun k hk => ht.block k (fun hs => by have := hS k hs; omega)⟩
theorem take_eq_succ {xs ys : List Int} {k : Nat} (hx : k < xs.length) (hy : k < ys.length) (h : xs.take k = ys.take k) (he : xs[k] = ys[k]) : xs.take (k + 1) = ys.take (k + 1) := by
  rw [List.take_succ_eq_append_getElem hx, List.take_succ_eq_append_getElem hy, h, he]
/-! ### sz -/
/-! ### eq -/
/-! ### held -/
/-! ### mark -/
/-! ### to -/
end Go.Proofs.YtaddclaadbjnlaaGreat

namespace Go.Proofs.YtaddclaadbjnlaaGreat
set_option maxRecDepth 100000
set_option linter.unusedVariables false
set_option linter.unusedSimpArgs false
open Go.RowKit
theorem run_append_none_any {P : Program} (w : World) (base : Nat) (t ty e : TypeId) (i : TypeInfo) (size : Nat) (ht : P.underlying t = some (.slice e)) (hi : P.info? e = some i)
    (v : Value) (n c : Nat) (xs : List Value) (hown : w.ownsRow base e size v n xs) : (Builtin.append_ #[t, t] ty #[v, .slice none 0 c]).run P w = .ok v w := by
  rcases hown.2 with ⟨rfl, rfl⟩ | ⟨g, cap, cur, rfl, hb, hg, hnc, hcm, hcs, htake⟩
  · simp [Builtin.append_, run_underlying ht, sizeOf, typeInfo, hi, Builtin.lenOf, Builtin.firstCells, loadCells, loadCellsFrom]
  · simp [Builtin.append_, run_underlying ht, sizeOf, typeInfo, hi, Builtin.lenOf, Builtin.firstCells, hnc, storeCells]
theorem wp_appL {o : Oper} {a : Act} {K : Act → World → Prop} {Q : Exit → Act → World → Prop} {w : World} {s x : Operand}
    (ho : o.op = .call { callee := .builtin .append, args := #[s, x], argTypes := #[41, 41] }) {lo : Nat} {ad : Option Addr} {n c : Nat} {xs : List Int} (hown : Own w lo ad n c xs) (hs : a.eval s = .slice ad n c)
    {ad2 : Option Addr} {m c2 : Nat} {ys : List Int} (hr : Row w ad2 m ys) (hx : a.eval x = .slice ad2 m c2) (hlen : n + m ≤ 1000000000000) (hlo : lo ≤ w.heap.size)
    (h : ∀ ad' c' w', Own w' lo ad' (n + m) c' (xs ++ ys) → w.grownBy w' (Value.slice ad n c).ownBlock → Below lo w w' → K (a.put o.dst (.slice ad' (n + m) c')) w') :
    o.wp Tryz.prog a w K Q := by
  obtain ⟨i0, hi, hz0, hz1, hz2⟩ := info_parts info_int
  obtain ⟨hn, hw⟩ := hown
  cases ad2 with
  | none =>
    have hm : m = 0 := by
      rcases Nat.eq_zero_or_pos m with h | h
      · exact h
      · obtain ⟨b, off, h1, _⟩ := hr.at 0 h; cases h1
    subst hm
    have hy : ys = [] := List.eq_nil_of_length_eq_zero hr.len.symm
    subst hy
    have hrun := run_append_none_any (P := Tryz.prog) w lo 41 o.type 2 i0 1 und_ints hi _ n c2 _ hw
    unfold Oper.wp
    simp [execOp, ho, resolve, invoke, builtin, hs, hx, hrun, Result.andThen]
    have hh := h ad c w ⟨by simpa using hn, by simpa using hw⟩ (World.grownBy.refl _ _) (Below.refl _ _)
    exact hh
  | some p =>
    refine wp_append_own _ s x 41 ho lo 2 i0 (.int .i64 0) 1 8 und_ints hi hz0 hz1 hz2 rfl (by decide) _ n (xs.map (.int .i64)) hs hw p m c2 (ys.map (.int .i64)) hx (by simp [hr.len]) ?_ ?_ ?_ ?_ hlo ?_
    · intro j u hj
      have hjm : j < m := by
        have := (List.getElem?_eq_some_iff.1 hj).1
        rw [List.length_map] at this; have := hr.len; omega
      obtain ⟨b, off, h1, h2⟩ := hr.at j hjm
      cases h1
      have e : (⟨b, off, none⟩ : Addr).add j = ⟨b, off + j, none⟩ := by unfold Addr.add; split <;> simp_all
      have hjy : j < ys.length := by have := hr.len; omega
      rw [e, h2, ← hj]
      simp [List.getD_eq_getElem?_getD, List.getElem?_eq_getElem hjy]
    · intro u hu
      rw [List.mem_map] at hu
      obtain ⟨y, _, rfl⟩ := hu; rfl
    · unfold maxLen; omega
    · omega
    · intro v' w' ho' hg hv'
      obtain ⟨hl, h2⟩ := ho'
      have hb : Below lo w w' := (Below.refl _ _).grown hg hlo (fun k hk => (World.ownsRow.lt hw k hk).1)
      rcases h2 with ⟨rfl, h2⟩ | ⟨g, cap, cur, rfl, h2⟩
      · have hn0 : n = 0 := by omega
        have hm0 : m = 0 := by omega
        subst hn0 hm0
        have hx0 : xs = [] := List.eq_nil_of_length_eq_zero hn.symm
        have hy0 : ys = [] := List.eq_nil_of_length_eq_zero hr.len.symm
        subst hx0 hy0
        exact h none 0 w' (Own.nil _ _) hg hb
      · refine h _ _ w' ⟨by simp [hn, hr.len], by simpa using hl, .inr ⟨g, cap, cur, rfl, ?_⟩⟩ hg hb
        simpa using h2
theorem appL {ops : Array Oper} {rest : List Oper} {o : Oper} {a : Act} {Q : Exit → Act → World → Prop} {w : World} (hgd : o.guard = none) {s x : Operand}
    (ho : o.op = .call { callee := .builtin .append, args := #[s, x], argTypes := #[41, 41] }) {lo : Nat} {ad : Option Addr} {n c : Nat} {xs : List Int} (hown : Own w lo ad n c xs) (hs : a.eval s = .slice ad n c)
    {ad2 : Option Addr} {m c2 : Nat} {ys : List Int} (hr : Row w ad2 m ys) (hx : a.eval x = .slice ad2 m c2) (hlen : n + m ≤ 1000000000000) (hlo : lo ≤ w.heap.size)
    (h : ∀ ad' c' w', Own w' lo ad' (n + m) c' (xs ++ ys) → w.grownBy w' (Value.slice ad n c).ownBlock → Below lo w w' → wpList Tryz.prog ops Q rest (a.put o.dst (.slice ad' (n + m) c')) w') :
    wpList Tryz.prog ops Q (o :: rest) a w :=
  wpList_plain hgd fun _ hK => wp_appL ho hown hs hr hx hlen hlo fun _ _ _ h1 h2 h3 => hK _ _ (h _ _ _ h1 h2 h3)
theorem Row.one (w : World) {b : Nat} (hb : b = w.heap.size) (y : Int) (t : TypeId) : Row (w.alloc (.cells #[.int .i64 y] t)) (some ⟨b, 0, none⟩) 1 [y] := by
  refine ⟨rfl, fun i hi => ⟨b, 0, rfl, by rw [size_alloc]; omega, ?_⟩⟩
  have : i = 0 := by omega
  subst this
  exact (Loc.new w hb #[.int .i64 y] t).cell 0 rfl
theorem Own.fresh (w : World) {b : Nat} (hb : b = w.heap.size) : Own (w.alloc (.cells #[] 2)) w.heap.size (some ⟨b, 0, none⟩) 0 0 [] :=
  Own.mk rfl (by omega) (Loc.new _ hb _ _) (Nat.le_refl _) (by unfold maxLen; omega) rfl rfl
theorem Own.single (w : World) {b : Nat} (hb : b = w.heap.size) (y : Int) : Own (w.alloc (.cells #[.int .i64 y] 2)) w.heap.size (some ⟨b, 0, none⟩) 1 1 [y] :=
  Own.mk rfl (by omega) (Loc.new _ hb _ _) (Nat.le_refl _) (by unfold maxLen; omega) rfl rfl
end Go.Proofs.YtaddclaadbjnlaaGreat

namespace Go.Proofs.YtaddclaadbjnlaaGreat
set_option maxRecDepth 100000
set_option linter.unusedVariables false
set_option linter.unusedSimpArgs false
open Go.RowKit
def revK (xs : List Int) (k : Nat) : List Int := (List.range xs.length).map fun i => if i < k ∨ xs.length ≤ i + k then xs.getD (xs.length - 1 - i) 0 else xs.getD i 0
theorem revK_len (xs : List Int) (k : Nat) : (revK xs k).length = xs.length := by simp [revK]
theorem revK_getD (xs : List Int) (k i : Nat) (h : i < xs.length) : (revK xs k).getD i 0 = if i < k ∨ xs.length ≤ i + k then xs.getD (xs.length - 1 - i) 0 else xs.getD i 0 := by
  simp [revK, List.getD_eq_getElem?_getD, List.getElem?_map, h]
theorem getD_ext {xs ys : List Int} (hl : xs.length = ys.length) (h : ∀ i, i < xs.length → xs.getD i 0 = ys.getD i 0) : xs = ys := by
  refine List.ext_getElem hl fun i h1 h2 => ?_
  have := h i h1
  simpa [List.getD_eq_getElem?_getD, h1, h2] using this
theorem revK_zero (xs : List Int) : revK xs 0 = xs := by
  refine getD_ext (by rw [revK_len]) fun i hi => ?_
  rw [revK_len] at hi
  rw [revK_getD _ _ _ hi, if_neg (by omega)]
theorem revK_end (xs : List Int) (k : Nat) (h : xs.length ≤ 2 * k + 1) : revK xs k = xs.reverse := by
  refine getD_ext (by rw [revK_len, List.length_reverse]) fun i hi => ?_
  rw [revK_len] at hi
  rw [revK_getD _ _ _ hi]
  have e : xs.reverse.getD i 0 = xs.getD (xs.length - 1 - i) 0 := by
    simp [List.getD_eq_getElem?_getD, List.getElem?_reverse hi]
  rw [e]
  by_cases hc : i < k ∨ xs.length ≤ i + k
  · rw [if_pos hc]
  · rw [if_neg hc]
    have : xs.length - 1 - i = i := by omega
    rw [this]
theorem getD_set (xs : List Int) (j i : Nat) (x : Int) (h : i < xs.length) : (xs.set j x).getD i 0 = if i = j then x else xs.getD i 0 := by
  simp only [List.getD_eq_getElem?_getD, List.getElem?_set]
  by_cases e : i = j
  · subst e; simp [h]
  · rw [if_neg e, if_neg (fun h => e h.symm)]
theorem revK_step (xs : List Int) (k : Nat) (h : 2 * k + 1 < xs.length) :
    ((revK xs k).set k (xs.getD (xs.length - 1 - k) 0)).set (xs.length - 1 - k) (xs.getD k 0) = revK xs (k + 1) := by
  refine getD_ext (by simp [revK_len]) fun i hi => ?_
  simp [revK_len] at hi
  rw [getD_set _ _ _ _ (by simpa [revK_len] using hi), getD_set _ _ _ _ (by simpa [revK_len] using hi), revK_getD _ _ _ hi, revK_getD _ _ _ hi]
  by_cases h1 : i = xs.length - 1 - k
  · subst h1
    rw [if_pos rfl, if_pos (by omega)]
    congr 1; omega
  · rw [if_neg h1]
    by_cases h2 : i = k
    · subst h2
      rw [if_pos rfl, if_pos (by omega)]
    · rw [if_neg h2]
      by_cases h3 : i < k ∨ xs.length ≤ i + k
      · rw [if_pos h3, if_pos (by omega)]
      · rw [if_neg h3, if_neg (by omega)]
end Go.Proofs.YtaddclaadbjnlaaGreat

namespace Go.Proofs.YtaddclaadbjnlaaGreat
set_option maxRecDepth 100000
set_option linter.unusedVariables false
set_option linter.unusedSimpArgs false
open Go.RowKit
theorem app_getD (ys l : List Int) (o i : Nat) (ho : ys.length = o) : (ys ++ l).getD (o + i) 0 = l.getD i 0 := by
  simp [List.getD_eq_getElem?_getD, List.getElem?_append_right, ← ho]
theorem app_set (ys l : List Int) (o i : Nat) (x : Int) (ho : ys.length = o) : (ys ++ l).set (o + i) x = ys ++ l.set i x := by
  rw [List.set_append_right _ _ (by omega)]
  congr 2; omega
set_option maxHeartbeats 2000000 in
theorem reverse_mid (g N C lo o n c : Nat) (ys xs : List Int) (w : World) (h1 : Own w lo (some ⟨g, 0, none⟩) N C (ys ++ xs)) (hy : ys.length = o) (hx : xs.length = n) :
    Calls Tryz.prog 154 #[.slice (some ⟨g, o, none⟩) n c] w fun e w' => e = .returned (.tuple #[]) ∧ Own w' lo (some ⟨g, 0, none⟩) N C (ys ++ xs.reverse) ∧ Touch (fun q => q = g) w w' := by
  have hcap := h1.cap
  have hl := h1.len
  rw [List.length_append, hx, hy] at hl
  have HL := Lib.hid hl; have HX := Lib.hid hx; have HY := Lib.hid hy
  have hN : o + n ≤ 9223372036854775807 := by omega
  clear hl hx hy hcap
  go_enter Tryz.func154, Tryz.ntmps154
  go_wp2
  go_loopw [2, 3] (fun i j wr => ∃ k : Nat, 2 * k ≤ n + 1 ∧ i = .int .i64 k ∧ j = .int .i64 ((n : Int) - 1 - k) ∧ Own wr lo (some ⟨g, 0, none⟩) N C (ys ++ revK xs k) ∧ Touch (fun q => q = g) w wr) (fun i _ _ => n - (intOf i).toNat)
  case atStart => exact ⟨0, by omega, rfl, by simp, by rw [revK_zero]; exact h1, Touch.refl _ _⟩
  case round =>
    obtain ⟨k, hk, rfl, rfl, ho, ht⟩ := hrel
    by_cases hlt : 2 * k + 1 < n
    · obtain ⟨_, hc, hf⟩ := ho.cells
      have hxl := HX.out
      have hyl := HY.out
      have hNl := HL.out
      obtain ⟨m, hm⟩ : ∃ m, m = n - 1 - k := ⟨_, rfl⟩
      have hkm : k < m := by omega
      have hmn : m < n := by omega
      have hck := hc (o + k) (by omega)
      have hcj := hc (o + m) (by omega)
      rw [app_getD _ _ _ _ hyl, revK_getD _ _ _ (by omega), if_neg (by omega)] at hck hcj
      have hfk := hf (o + k)
      have hfj := hf (o + m)
      have ej : (n : Int) - 1 - k = (m : Int) := by omega
      have es : ((revK xs k).set k (xs.getD m 0)).set m (xs.getD k 0) = revK xs (k + 1) := by
        have := revK_step xs k (by omega)
        rw [hxl, ← hm] at this; exact this
      obtain ⟨X, hX⟩ : ∃ X, X = xs.getD k 0 := ⟨_, rfl⟩
      obtain ⟨Y, hY⟩ : ∃ Y, Y = xs.getD m 0 := ⟨_, rfl⟩
      rw [← hX] at hck es
      rw [← hY] at hcj es
      clear hc hf
      have HS := Lib.hid es
      have HM := Lib.hid hm
      clear es hxl hyl hNl hX hY hm
      rw [ej]; clear ej
      go_wp2
      go_region
      all_goals go_wp2
      all_goals go_roundw
      case rel =>
        refine ⟨k + 1, by omega, by go_num, ?_, ?_, ?_⟩
        · have := HM.out
          exact congrArg (Value.int .i64) (by omega)
        · rw [← HS.out, ← app_set _ _ o _ _ HY.out, ← app_set _ _ o _ _ HY.out]
          exact (ho.set (o + k) Y).set (o + m) X
        · exact Touch.drewN (Touch.set (p := ⟨g, o + m, none⟩) (Touch.set (p := ⟨g, o + k, none⟩) ht rfl _) rfl _) 1
      case measure => simp [intOf]; omega
    · go_wp2
      go_end0
      refine ⟨rfl, ?_, ht⟩
      rw [revK_end _ _ (by have := HX.out; omega)] at ho
      exact ho
def nxI (p : List Int) : Nat → Option Nat
  | 0 => none
  | j + 1 => if p.getD (j + 1) 0 < p.getD j 0 then nxI p j else some j
def nxK (p : List Int) (v : Int) : Nat → Nat
  | 0 => 0
  | j + 1 => if p.getD (j + 1) 0 < v then nxK p v j else j + 1
def swpQ (p : List Int) (i k : Nat) : List Int := (p.set i (p.getD k 0)).set k (p.getD i 0)
def nxP (p : List Int) : Option (List Int) :=
  match nxI p (p.length - 1) with
  | none => none
  | some i => some ((fun q : List Int => q.take (i + 1) ++ (q.drop (i + 1)).reverse) (swpQ p i (nxK p (p.getD i 0) (p.length - 1))))
end Go.Proofs.YtaddclaadbjnlaaGreat

namespace Go.Proofs.YtaddclaadbjnlaaGreat
set_option maxRecDepth 100000
set_option linter.unusedVariables false
set_option linter.unusedSimpArgs false
open Go.RowKit
theorem within_any (v lo hi : Int) (w : World) :
    Calls Tryz.prog 37 #[.int .i64 v, .int .i64 lo, .int .i64 hi] w fun e w' => e = .returned (.bool (decide (lo ≤ v) && decide (v ≤ hi))) ∧ w = w' := by
  by_cases h : lo ≤ v
  all_goals
    go_enter Tryz.func37, Tryz.ntmps37
    go_wp2
    go_ret
    exact ⟨by first | (simp [h]; done) | (simp; omega), rfl⟩
theorem l01In_any (v lo hi : Int) (w : World) :
    Calls Tryz.prog 39 #[.int .i64 v, .int .i64 lo, .int .i64 hi] w fun e w' => e = .returned (.bool (decide (lo ≤ v) && decide (v ≤ hi))) ∧ w = w' := by
  by_cases h : lo ≤ v
  all_goals
    go_enter Tryz.func39, Tryz.ntmps39
    go_wp2
    go_ret
    exact ⟨by first | (simp [h]; done) | (simp; omega), rfl⟩
structure Marked (S : Nat → Prop) (w w' : World) : Prop where
  os : w'.os = w.os
  tape : w'.tape = w.tape
  output : w'.output = w.output
  size : w.heap.size ≤ w'.heap.size
  block : ∀ k, k < w.heap.size → ¬ S k → w'.heap[k]? = w.heap[k]?
theorem Marked.below {S : Nat → Prop} {B : Nat} {w0 w w' : World} (h : Below B w0 w) (ht : Marked S w w') (hB : B ≤ w.heap.size) (hS : ∀ k, S k → B ≤ k) : Below B w0 w' :=
  h.trans ⟨ht.os, ht.tape, ht.output, ht.size, fun k hk => ht.block k (by omega) (fun hs => by have := hS k hs; omega)⟩
theorem Own.marked {w w' : World} {S : Nat → Prop} {lo : Nat} {a : Option Addr} {n c : Nat} {xs : List Int} (h : Own w lo a n c xs) (hm : Marked S w w') (hS : ∀ g, a = some ⟨g, 0, none⟩ → ¬ S g) : Own w' lo a n c xs := h.keep fun g hg hlt => hm.block g hlt (hS g hg)
theorem Loc.marked {w w' : World} {S : Nat → Prop} {b : Nat} {cs : Array Value} {t : TypeId} (h : Loc w b cs t) (hm : Marked S w w') (hS : ¬ S b) : Loc w' b cs t := (hm.block b h.lt hS).trans h
end Go.Proofs.YtaddclaadbjnlaaGreat
