/-
  Walks and plain laws of this seat, some texts in one.
  No condition but bounds on lengths.
-/
import Derived.Test.YtiliimkfobfbnaaGreatRows
import Derived.WalkKit
import Derived.WalkSpells
import Derived.WalkLawsBesides
import Derived.Deep.QuietTactic
import Derived.BigQuiet
import Derived.Lib.Hide
import Derived.ProofKit
import Derived.OpenShut
import Derived.ChangeOld
import Derived.Below
import Derived.Lib.SmallJoins
import Derived.ChangeMaps5
namespace Go.Proofs.YtiliimkfobfbnaaGreat
set_option linter.unusedVariables false
set_option linter.unusedSimpArgs false
open Go.RowKit
theorem info_int : (Tryz.prog.info? 2).map (fun i => (i.zero, i.size, i.bytes)) = some (some (.int .i64 0), 1, 8) := by kernel_rfl
theorem und_ints : Tryz.prog.underlying 50 = some (.slice 2) := by kernel_rfl
theorem ret_bool {a b : Bool} (h : a = b) : Ending.returned (.bool a) = .returned (.bool b) := by rw [h]
theorem ret_int {k : IntKind} {a b : Int} (h : a = b) : Ending.returned (.int k a) = .returned (.int k b) := by rw [h]
/-! ### A block of the call's own -/
def Loc (w : World) (b : Nat) (cs : Array Value) (t : TypeId) : Prop := w.heap[b]? = some (.cells cs t (0, 0))
theorem Loc.cell {w : World} {b : Nat} {cs : Array Value} {t : TypeId} (h : Loc w b cs t) (i : Nat) {v : Value} (hi : cs[i]? = some v) : w.cell? ⟨b, i, none⟩ = some v := by
  unfold Loc at h; simp [World.cell?, h, hi]
theorem Loc.free {w : World} {b : Nat} {cs : Array Value} {t : TypeId} (h : Loc w b cs t) (i : Nat) : w.frozen? ⟨b, i, none⟩ = false := by
  unfold Loc at h; simp [World.frozen?, h]
theorem Loc.lt {w : World} {b : Nat} {cs : Array Value} {t : TypeId} (h : Loc w b cs t) : b < w.heap.size := lt_of_block h
theorem Loc.new (w : World) {b : Nat} (hb : b = w.heap.size) (cs : Array Value) (t : TypeId) : Loc (w.alloc (.cells cs t)) b cs t := by
  subst hb; exact heap_alloc_new w _
theorem Loc.alloc {w : World} {b : Nat} {cs : Array Value} {t : TypeId} (h : Loc w b cs t) (o : Obj) : Loc (w.alloc o) b cs t :=
  ((Below.heap_alloc w o b h.lt)).trans h
theorem Loc.drew {w : World} {b : Nat} {cs : Array Value} {t : TypeId} (h : Loc w b cs t) : Loc w.drew b cs t := h
theorem Loc.drewN {w : World} {b : Nat} {cs : Array Value} {t : TypeId} (h : Loc w b cs t) (n : Nat) : Loc (w.drewN n) b cs t := h
theorem Loc.set {w : World} {b : Nat} {cs : Array Value} {t : TypeId} (h : Loc w b cs t) (i : Nat) (u : Value) : Loc (w.setCell ⟨b, i, none⟩ u) b (cs.setIfInBounds i u) t := by
  have hlt := h.lt
  unfold Loc at *
  have h' : w.heap[b] = .cells cs t (0, 0) := by simpa [Array.getElem?_eq_getElem hlt] using h
  show (w.heap.modify b _)[b]? = _
  rw [Array.getElem?_eq_getElem (by simpa using hlt), Array.getElem_modify_self, h']
  rfl
theorem Loc.setne {w : World} {b : Nat} {cs : Array Value} {t : TypeId} (h : Loc w b cs t) {a : Addr} (hb : b ≠ a.block) (u : Value) : Loc (w.setCell a u) b cs t :=
  (Below.heap_setCell w a u b hb).trans h
theorem Loc.below {w w' : World} {B b : Nat} {cs : Array Value} {t : TypeId} (h : Loc w b cs t) (hb : Below B w w') (hlt : b < B) : Loc w' b cs t := (hb.block b hlt).trans h
theorem Loc.grown {w w' : World} {b : Nat} {row : Option Nat} {cs : Array Value} {t : TypeId} (h : Loc w b cs t) (hg : w.grownBy w' row) (hne : some b ≠ row) : Loc w' b cs t := (hg.block b h.lt hne).trans h
theorem below_setne {w w' : World} {B : Nat} (h : Below B w w') {a : Addr} (ha : B ≤ a.block) (u : Value) : Below B w (w'.setCell a u) := h.setCell ha u
theorem cell_setne {w : World} {p a : Addr} {v : Value} (h : w.cell? p = some v) (hne : p.block ≠ a.block) (u : Value) : (w.setCell a u).cell? p = some v :=
  (World.cell?_of_block (Below.heap_setCell w a u p.block hne)).trans h
theorem size_set (w : World) (a : Addr) (u : Value) : (w.setCell a u).heap.size = w.heap.size := by simp [World.setCell]
theorem below_al {w0 w : World} (h : Below w0.heap.size w0 w) (o : Obj) : Below w0.heap.size w0 (w.alloc o) := h.alloc h.size o
theorem below_th {w0 w w' : World} (h : Below w0.heap.size w0 w) (k : Below w.heap.size w w') : Below w0.heap.size w0 w' := h.trans (k.mono h.size)
theorem below_alth {w0 w w' : World} {o : Obj} (h : Below w0.heap.size w0 w) (k : Below (w.alloc o).heap.size (w.alloc o) w') : Below w0.heap.size w0 w' := below_th (below_al h o) k
theorem size_alloc (w : World) (o : Obj) : (w.alloc o).heap.size = w.heap.size + 1 := by simp
theorem Loc.one {w : World} {b : Nat} {x : Value} {t : TypeId} (h : Loc w b #[x] t) : w.cell? ⟨b, 0, none⟩ = some x ∧ w.frozen? ⟨b, 0, none⟩ = false := ⟨h.cell 0 rfl, h.free 0⟩
theorem Loc.two {w : World} {b : Nat} {x y : Value} {t : TypeId} (h : Loc w b #[x, y] t) : w.cell? ⟨b, 0, none⟩ = some x ∧ w.cell? ⟨b, 1, none⟩ = some y ∧ w.frozen? ⟨b, 0, none⟩ = false ∧ w.frozen? ⟨b, 1, none⟩ = false :=
  ⟨h.cell 0 rfl, h.cell 1 rfl, h.free 0, h.free 1⟩
theorem Loc.three {w : World} {b : Nat} {x y z : Value} {t : TypeId} (h : Loc w b #[x, y, z] t) : w.cell? ⟨b, 0, none⟩ = some x ∧ w.cell? ⟨b, 1, none⟩ = some y ∧ w.cell? ⟨b, 2, none⟩ = some z ∧ w.frozen? ⟨b, 0, none⟩ = false ∧ w.frozen? ⟨b, 1, none⟩ = false ∧ w.frozen? ⟨b, 2, none⟩ = false :=
  ⟨h.cell 0 rfl, h.cell 1 rfl, h.cell 2 rfl, h.free 0, h.free 1, h.free 2⟩
/-! ### A slice of numbers that is read -/
def Row (w : World) (a : Option Addr) (n : Nat) (xs : List Int) : Prop :=
  n = xs.length ∧ ∀ i, i < n → ∃ b off, a = some ⟨b, off, none⟩ ∧ b < w.heap.size ∧ w.cell? ⟨b, off + i, none⟩ = some (.int .i64 (xs.getD i 0))
theorem Row.nil (w : World) (a : Option Addr) : Row w a 0 [] := ⟨rfl, fun i h => absurd h (by omega)⟩
theorem Row.len {w : World} {a : Option Addr} {n : Nat} {xs : List Int} (h : Row w a n xs) : n = xs.length := h.1
theorem Row.at {w : World} {a : Option Addr} {n : Nat} {xs : List Int} (h : Row w a n xs) (i : Nat) (hi : i < n) : ∃ b off, a = some ⟨b, off, none⟩ ∧ w.cell? ⟨b, off + i, none⟩ = some (.int .i64 (xs.getD i 0)) := by
  obtain ⟨b, off, h1, _, h2⟩ := h.2 i hi; exact ⟨b, off, h1, h2⟩
theorem Row.all {w : World} {a : Option Addr} {n : Nat} {xs : List Int} (h : Row w a n xs) (hn : 0 < n) : ∃ b off, a = some ⟨b, off, none⟩ ∧ b < w.heap.size ∧ ∀ i, i < n → w.cell? ⟨b, off + i, none⟩ = some (.int .i64 (xs.getD i 0)) := by
  obtain ⟨b, off, h1, h3, h2⟩ := h.2 0 hn
  refine ⟨b, off, h1, h3, fun i hi => ?_⟩
  obtain ⟨b', off', h4, _, h5⟩ := h.2 i hi
  rw [h1] at h4; cases h4; exact h5
theorem Row.below {w w' : World} {a : Option Addr} {n : Nat} {xs : List Int} (h : Row w a n xs) (hb : Below w.heap.size w w') : Row w' a n xs :=
  ⟨h.1, fun i hi => by obtain ⟨b, off, h1, h3, h2⟩ := h.2 i hi; exact ⟨b, off, h1, Nat.lt_of_lt_of_le h3 hb.size, (hb.cell (p := ⟨b, off + i, none⟩) h3).trans h2⟩⟩
theorem Row.drewN {w : World} {a : Option Addr} {n : Nat} {xs : List Int} (h : Row w a n xs) (k : Nat) : Row (w.drewN k) a n xs := h
theorem Row.alloc {w : World} {a : Option Addr} {n : Nat} {xs : List Int} (h : Row w a n xs) (o : Obj) : Row (w.alloc o) a n xs := h.below ((Below.refl _ _).alloc (Nat.le_refl _) o)
/-! ### A slice of numbers that the call owns (its block lies from 'lo' on) -/
def Own (w : World) (lo : Nat) (a : Option Addr) (n c : Nat) (xs : List Int) : Prop := n = xs.length ∧ w.ownsRow lo 2 1 (.slice a n c) n (xs.map (.int .i64))
theorem Own.nil (w : World) (lo : Nat) : Own w lo none 0 0 [] := ⟨rfl, World.ownsRow_nil w lo _ 1⟩
theorem Own.len {w : World} {lo : Nat} {a : Option Addr} {n c : Nat} {xs : List Int} (h : Own w lo a n c xs) : n = xs.length := h.1
theorem Own.alloc {w : World} {lo : Nat} {a : Option Addr} {n c : Nat} {xs : List Int} (h : Own w lo a n c xs) (o : Obj) : Own (w.alloc o) lo a n c xs := ⟨h.1, h.2.alloc o⟩
theorem Own.drew {w : World} {lo : Nat} {a : Option Addr} {n c : Nat} {xs : List Int} (h : Own w lo a n c xs) : Own w.drew lo a n c xs := h
theorem Own.drewN {w : World} {lo : Nat} {a : Option Addr} {n c : Nat} {xs : List Int} (h : Own w lo a n c xs) (k : Nat) : Own (w.drewN k) lo a n c xs := h
theorem Own.block {w : World} {lo : Nat} {a : Option Addr} {n c : Nat} {xs : List Int} (h : Own w lo a n c xs) : (a = none ∧ n = 0 ∧ c = 0) ∨ ∃ g cur, a = some ⟨g, 0, none⟩ ∧ lo ≤ g ∧ Loc w g cur 2 ∧ n ≤ c ∧ c ≤ maxLen ∧ cur.size = c ∧ cur.toList.take n = xs.map (.int .i64) := by
  rcases h.2.2 with ⟨h1, h2⟩ | ⟨g, cap, cur, h1, h2, h3, h4, h5, h6, h7⟩
  · cases h1; exact .inl ⟨rfl, rfl, rfl⟩
  · cases h1; exact .inr ⟨g, cur, rfl, h2, h3, h4, h5, by simpa using h6, by simpa using h7⟩
theorem Own.mk {w : World} {lo : Nat} {g n c : Nat} {xs : List Int} {cur : Array Value} (hn : n = xs.length) (h1 : lo ≤ g) (h2 : Loc w g cur 2) (h3 : n ≤ c) (h4 : c ≤ maxLen) (h5 : cur.size = c) (h6 : cur.toList.take n = xs.map (.int .i64)) : Own w lo (some ⟨g, 0, none⟩) n c xs :=
  ⟨hn, by simp [hn], .inr ⟨g, c, cur, rfl, h1, h2, h3, h4, by simpa using h5, by simpa using h6⟩⟩
theorem Own.lt {w : World} {lo : Nat} {g o n c : Nat} {xs : List Int} (h : Own w lo (some ⟨g, o, none⟩) n c xs) : lo ≤ g ∧ g < w.heap.size := by
  rcases h.block with ⟨h1, _⟩ | ⟨g', cur, h1, h2, h3, _⟩
  · cases h1
  · cases h1; exact ⟨h2, h3.lt⟩
theorem Own.mono {w : World} {lo lo' : Nat} {a : Option Addr} {n c : Nat} {xs : List Int} (h : Own w lo a n c xs) (hl : lo' ≤ lo) : Own w lo' a n c xs := by
  rcases h.block with ⟨rfl, rfl, rfl⟩ | ⟨g, cur, rfl, h2, h3, h4, h5, h6, h7⟩
  · have : xs = [] := List.eq_nil_of_length_eq_zero h.1.symm
    subst this; exact Own.nil _ _
  · exact Own.mk h.1 (by omega) h3 h4 h5 h6 h7
theorem Own.keep {w w' : World} {lo : Nat} {a : Option Addr} {n c : Nat} {xs : List Int} (h : Own w lo a n c xs) (hk : ∀ g, a = some ⟨g, 0, none⟩ → g < w.heap.size → w'.heap[g]? = w.heap[g]?) : Own w' lo a n c xs := by
  rcases h.block with ⟨rfl, rfl, rfl⟩ | ⟨g, cur, rfl, h2, h3, h4, h5, h6, h7⟩
  · have : xs = [] := List.eq_nil_of_length_eq_zero h.1.symm
    subst this; exact Own.nil _ _
  · exact Own.mk h.1 h2 ((hk g rfl h3.lt).trans h3) h4 h5 h6 h7
theorem Own.below {w w' : World} {lo : Nat} {a : Option Addr} {n c : Nat} {xs : List Int} (h : Own w lo a n c xs) (hb : Below w.heap.size w w') : Own w' lo a n c xs := h.keep fun g _ hlt => hb.block g hlt
theorem Own.setne {w : World} {lo : Nat} {a : Option Addr} {n c : Nat} {xs : List Int} (h : Own w lo a n c xs) {p : Addr} (hp : ∀ g, a = some ⟨g, 0, none⟩ → g ≠ p.block) (u : Value) : Own (w.setCell p u) lo a n c xs := h.keep fun g hg _ => Below.heap_setCell _ _ _ _ (hp g hg)
theorem Own.setlo {w : World} {lo : Nat} {a : Option Addr} {n c : Nat} {xs : List Int} (h : Own w lo a n c xs) {p : Addr} (hp : p.block < lo) (u : Value) : Own (w.setCell p u) lo a n c xs := by
  refine h.setne (fun g hg => ?_) u
  subst hg; have := h.lt; omega
theorem Own.grown {w w' : World} {lo : Nat} {a : Option Addr} {n c : Nat} {xs : List Int} {row : Option Nat} (h : Own w lo a n c xs) (hg : w.grownBy w' row) (hne : ∀ g, a = some ⟨g, 0, none⟩ → some g ≠ row) : Own w' lo a n c xs := h.keep fun g hg' hlt => hg.block g hlt (hne g hg')
theorem Own.cap {w : World} {lo : Nat} {a : Option Addr} {n c : Nat} {xs : List Int} (h : Own w lo a n c xs) : n ≤ c ∧ c ≤ 9223372036854775807 := by
  rcases h.block with ⟨rfl, rfl, rfl⟩ | ⟨g, cur, rfl, h2, h3, h4, h5, h6, h7⟩
  · omega
  · unfold maxLen at h5; omega
theorem Own.cells {w : World} {lo : Nat} {g o n c : Nat} {xs : List Int} (h : Own w lo (some ⟨g, o, none⟩) n c xs) : o = 0 ∧ (∀ i, i < n → w.cell? ⟨g, i, none⟩ = some (.int .i64 (xs.getD i 0))) ∧ (∀ i, w.frozen? ⟨g, i, none⟩ = false) := by
  rcases h.block with ⟨h1, _⟩ | ⟨g', cur, h1, h2, h3, h4, h5, h6, h7⟩
  · cases h1
  · cases h1
    refine ⟨rfl, fun i hi => h3.cell i ?_, fun i => h3.free i⟩
    have hx : (cur.toList.take n)[i]? = (xs.map (Value.int .i64))[i]? := by rw [h7]
    have hxi : i < xs.length := by have := h.1; omega
    rw [List.getElem?_take, if_pos hi] at hx
    simp [List.getElem?_eq_getElem hxi] at hx
    simp [List.getD_eq_getElem?_getD, List.getElem?_eq_getElem hxi, hx]
theorem Own.row {w : World} {lo : Nat} {a : Option Addr} {n c : Nat} {xs : List Int} (h : Own w lo a n c xs) : Row w a n xs := by
  refine ⟨h.1, fun i hi => ?_⟩
  rcases h.block with ⟨rfl, rfl, rfl⟩ | ⟨g, cur, rfl, h2, h3, _⟩
  · omega
  · exact ⟨g, 0, rfl, h3.lt, by simpa using h.cells.2.1 i hi⟩
theorem Own.set {w : World} {lo : Nat} {g n c : Nat} {xs : List Int} (h : Own w lo (some ⟨g, 0, none⟩) n c xs) (i : Nat) (x : Int) : Own (w.setCell ⟨g, i, none⟩ (.int .i64 x)) lo (some ⟨g, 0, none⟩) n c (xs.set i x) := by
  rcases h.block with ⟨h1, _⟩ | ⟨g', cur, h1, h2, h3, h4, h5, h6, h7⟩
  · cases h1
  · cases h1
    refine Own.mk (by simp [h.1]) h2 (h3.set i _) h4 h5 (by simpa using h6) ?_
    rw [Array.toList_setIfInBounds, List.take_set, h7, List.map_set]
theorem Own.hi {w : World} {lo : Nat} {a : Option Addr} {n c : Nat} {xs : List Int} (h : Own w lo a n c xs) : ∀ g, a = some ⟨g, 0, none⟩ → g < w.heap.size := fun g hg => by subst hg; exact h.lt.2
theorem Own.lo {w : World} {lo : Nat} {a : Option Addr} {n c : Nat} {xs : List Int} (h : Own w lo a n c xs) : ∀ g, a = some ⟨g, 0, none⟩ → lo ≤ g := fun g hg => by subst hg; exact h.lt.1
theorem app1 {ops : Array Oper} {rest : List Oper} {o : Oper} {a : Act} {Q : Exit → Act → World → Prop} {w : World} (hgd : o.guard = none) {s x : Operand}
    (ho : o.op = .call { callee := .builtin .append, args := #[s, x], argTypes := #[50, 50] }) {lo : Nat} {ad : Option Addr} {n c : Nat} {xs : List Int} (hown : Own w lo ad n c xs) (hs : a.eval s = .slice ad n c)
    {y : Int} {t : TypeId} (hx : a.eval x = .slice (some ⟨w.heap.size, 0, none⟩) 1 1) (hlen : n + 1 ≤ 1000000000000) (hlo : lo ≤ w.heap.size)
    (h : ∀ g c' w', Own w' lo (some ⟨g, 0, none⟩) (n + 1) c' (xs ++ [y]) → w.grownBy w' (Value.slice ad n c).ownBlock → w.heap.size < w'.heap.size → Below lo w w' → wpList Tryz.prog ops Q rest (a.put o.dst (.slice (some ⟨g, 0, none⟩) (n + 1) c')) w') :
    wpList Tryz.prog ops Q (o :: rest) a (w.alloc (.cells #[.int .i64 y] t)) := by
  obtain ⟨i0, hi, hz0, hz1, hz2⟩ := info_parts info_int
  obtain ⟨hn, hown⟩ := hown
  refine wpList_append_own _ hgd s x 50 ho lo 2 i0 (.int .i64 0) 1 8 und_ints hi hz0 hz1 hz2 rfl (by decide) _ n (xs.map (.int .i64)) hs (hown.alloc _) ⟨w.heap.size, 0, none⟩ 1 1 [.int .i64 y] hx rfl (cell_one_new _ _ _) ?_ ?_ ?_ ?_ ?_
  · intro u hu; simp at hu; subst hu; rfl
  · unfold maxLen; omega
  · omega
  · simp; omega
  · intro v' w' ho' hg hv'
    have hg' : w.grownBy w' (Value.slice ad n c).ownBlock := by
      have h1 := World.grownBy_alloc w (.cells #[.int .i64 y] t) (Value.slice ad n c).ownBlock
      exact ⟨hg.os.trans h1.os, hg.tape.trans h1.tape, hg.output.trans h1.output, Nat.le_trans h1.size hg.size, fun k hk hn => (hg.block k (by have := h1.size; omega) hn).trans (h1.block k hk hn)⟩
    obtain ⟨hl, h2⟩ := ho'
    rcases h2 with ⟨rfl, h2⟩ | ⟨g, cap, cur, rfl, h2⟩
    · simp at h2
    · refine h g cap w' ⟨by simp [hn], by simpa using hl, .inr ⟨g, cap, cur, rfl, ?_⟩⟩ hg' ?_ ?_
      · simpa using h2
      · have := hg.size; simp at this; omega
      · exact (Below.refl _ _).grown hg' hlo (fun k hk => (World.ownsRow.lt hown k hk).1)
theorem make1 {ops : Array Oper} {rest : List Oper} {o : Oper} {a : Act} {Q : Exit → Act → World → Prop} {w : World} (hgd : o.guard = none) {l c : Operand}
    (ho : o.op = Op.makeSlice 50 l c) {n : Nat} (hl : a.eval l = .int .i64 n) (hc : a.eval c = .int .i64 n) (hn : n ≤ 1000000000000)
    (h : ∀ w', Own w' w.heap.size (some ⟨w.heap.size, 0, none⟩) n n (List.replicate n 0) → w.heap.size < w'.heap.size → Below w.heap.size w w' → wpList Tryz.prog ops Q rest (a.put o.dst (.slice (some ⟨w.heap.size, 0, none⟩) n n)) w') :
    wpList Tryz.prog ops Q (o :: rest) a w := by
  obtain ⟨i0, hi, hz0, hz1, hz2⟩ := info_parts info_int
  refine wpList_make_full w hgd l c 50 ho w.heap.size 2 i0 (.int .i64 0) 1 und_ints hi hz0 hz1 .i64 .i64 n n n hl hc rfl rfl (by rw [hz2]; omega) (by unfold maxLen; omega) (Nat.le_refl _) ?_
  intro w' ho' hg
  refine h w' ⟨by simp, ?_⟩ ?_ ((Below.refl _ _).grown hg (Nat.le_refl _) (by simp))
  · have e : (madeCells (Value.int IntKind.i64 0).cells (n * 1)).toList = (List.replicate n (0 : Int)).map (.int .i64) := by
      rw [Nat.mul_one, List.map_replicate]; exact toList_madeCells_one _ _
    rw [e] at ho'; exact ho'
  · rcases ho'.2 with ⟨h1, _⟩ | ⟨g, cap, cur, h1, h2, h3, _⟩
    · cases h1
    · cases h1; exact lt_of_block h3
end Go.Proofs.YtiliimkfobfbnaaGreat
namespace Go.Proofs.YtiliimkfobfbnaaGreat
set_option linter.unusedVariables false
set_option linter.unusedSimpArgs false
set_option maxRecDepth 100000
open Go.ChangeShapes Go.WideShapes Go.ChangeAt Go.RowKit Go.Joins
theorem ownK : ownKnob Tryz.prog.godebug = none := by kernel_rfl
theorem laidOut : laidOutB Tryz.prog = true := by kernel_rfl
def I64 (x : Int) : Prop := -9223372036854775808 ≤ x ∧ x ≤ 9223372036854775807
def I64s (xs : List Int) : Prop := ∀ x ∈ xs, I64 x
theorem und_bytesO : Tryz.prog.underlying 22 = some (.slice 5) := by kernel_rfl
theorem und_u8O : Tryz.prog.underlying 5 = some (.int .u8) := by kernel_rfl
theorem cells_u8 : Tryz.prog.cellsOf 5 = 1 := by kernel_rfl
def Bts (w : World) (a : Option Addr) (n : Nat) (xs : List Int) : Prop :=
  n = xs.length ∧ (∀ i, i < n → ∃ b off, a = some ⟨b, off, none⟩ ∧ b < w.heap.size ∧ w.cell? ⟨b, off + i, none⟩ = some (.int .u8 (xs.getD i 0))) ∧ ∀ i, 0 ≤ xs.getD i 0 ∧ xs.getD i 0 ≤ 255
theorem Bts.below {w w' : World} {a : Option Addr} {n : Nat} {xs : List Int} (h : Bts w a n xs) (hb : Below w.heap.size w w') : Bts w' a n xs :=
  ⟨h.1, fun i hi => by obtain ⟨b, off, h1, h3, h2⟩ := h.2.1 i hi; exact ⟨b, off, h1, Nat.lt_of_lt_of_le h3 hb.size, (hb.cell (p := ⟨b, off + i, none⟩) h3).trans h2⟩, h.2.2⟩
theorem Bts.len {w : World} {a : Option Addr} {n : Nat} {xs : List Int} (h : Bts w a n xs) : n = xs.length := h.1
theorem Bts.at {w : World} {a : Option Addr} {n : Nat} {xs : List Int} (h : Bts w a n xs) (i : Nat) (hi : i < n) : ∃ b off, a = some ⟨b, off, none⟩ ∧ w.cell? ⟨b, off + i, none⟩ = some (.int .u8 (xs.getD i 0)) := by
  obtain ⟨b, off, h1, _, h2⟩ := h.2.1 i hi; exact ⟨b, off, h1, h2⟩
theorem open_bytes {H : Type} {enc : TypeId × Value → H} {W : World} {b0 : Nat} {v : Value} {d : DataW H} {p : List MemPlace} {sp : Nat → Bool} (hsp : ∀ b, sp b = true) (hv : Value.okWide Tryz.prog W .any b0 22 v)
    (h : DataW.Trod enc Tryz.prog W 0 sp true 22 v d p) : ∃ a n c xs, v = .slice a n c ∧ Bts W a n xs ∧ n ≤ 9223372036854775807 := by
  obtain ⟨a, n, c, rfl⟩ := okWide_slice und_bytesO hv
  obtain ⟨fuel, hf⟩ := h
  rcases open_ints und_bytesO und_u8O cells_u8 hf with ⟨hcs, _⟩ | ⟨⟨b, off, spot⟩, l, c', zs, hcs, _, hl, hm, hz, _, hcell, hwz⟩
  · simp [Value.cells] at hcs
    obtain ⟨rfl, rfl, rfl⟩ := hcs
    exact ⟨_, _, _, [], rfl, ⟨rfl, fun i hi => absurd hi (by omega), fun i => by simp⟩, by omega⟩
  · simp [Value.cells] at hcs
    obtain ⟨rfl, rfl, rfl⟩ := hcs
    rw [if_pos (hsp _)] at hz
    refine ⟨_, _, _, zs.take n, rfl, ⟨by rw [List.length_take]; omega, fun i hi => ?_, fun i => ?_⟩, by unfold maxLen at hm; omega⟩
    · have h0 := hcell 0 (by omega)
      have hi' := hcell i (by omega)
      have hspot : spot = none := by simpa [Addr.add] using World.cell?_spot h0
      subst hspot
      have e : (⟨b, off, none⟩ : Addr).add i = ⟨b, off + i, none⟩ := by unfold Addr.add; split <;> simp_all
      rw [e] at hi'
      refine ⟨b, off, rfl, World.block_lt_of_cell? W ⟨b, off + i, none⟩ hi', hi'.trans ?_⟩
      simp [List.getD_eq_getElem?_getD, List.getElem?_take, hi]
    · have hb := range_u8 hwz i
      rw [List.getD_eq_getElem?_getD, List.getElem?_take]
      split
      · exact hb
      · simp
end Go.Proofs.YtiliimkfobfbnaaGreat
namespace Go.Proofs.YtiliimkfobfbnaaGreat
set_option linter.unusedVariables false
set_option linter.unusedSimpArgs false
structure Grp (n : Nat) (m : Nat → Nat → Nat) (i : Nat → Nat) : Prop where
  lt : ∀ x y, x < n → y < n → m x y < n
  il : ∀ x, x < n → i x < n
  one_l : ∀ x, x < n → m 0 x = x
  one_r : ∀ x, x < n → m x 0 = x
  assoc : ∀ x y z, x < n → y < n → z < n → m (m x y) z = m x (m y z)
  inv_r : ∀ x, x < n → m x (i x) = 0
namespace Grp
variable {n : Nat} {m : Nat → Nat → Nat} {i : Nat → Nat}
theorem pos (h : Grp n m i) {x : Nat} (hx : x < n) : 0 < n := by omega
theorem inv_l (h : Grp n m i) {x : Nat} (hx : x < n) : m (i x) x = 0 := by
  have h0 : 0 < n := h.pos hx
  have hy := h.il x hx
  have hz := h.il _ hy
  have e : x = i (i x) := by
    have e1 : m x (m (i x) (i (i x))) = m (m x (i x)) (i (i x)) := (h.assoc x (i x) (i (i x)) hx hy hz).symm
    rw [h.inv_r _ hy, h.one_r _ hx, h.inv_r _ hx, h.one_l _ hz] at e1
    exact e1
  have := h.inv_r _ hy
  rw [← e] at this; exact this
theorem mul_inv (h : Grp n m i) {x y : Nat} (hx : x < n) (hy : y < n) : m (m x y) (i y) = x := by
  rw [h.assoc _ _ _ hx hy (h.il y hy), h.inv_r _ hy, h.one_r _ hx]
theorem inv_mul (h : Grp n m i) {x y : Nat} (hx : x < n) (hy : y < n) : m (i x) (m x y) = y := by
  rw [← h.assoc _ _ _ (h.il x hx) hx hy, h.inv_l hx, h.one_l _ hy]
theorem mul_inv' (h : Grp n m i) {x y : Nat} (hx : x < n) (hy : y < n) : m x (m (i x) y) = y := by
  rw [← h.assoc _ _ _ hx (h.il x hx) hy, h.inv_r _ hx, h.one_l _ hy]
theorem inv_mul' (h : Grp n m i) {x y : Nat} (hx : x < n) (hy : y < n) : m (m x (i y)) y = x := by
  rw [h.assoc _ _ _ hx (h.il y hy) hy, h.inv_l hy, h.one_r _ hx]
theorem cancel_l (h : Grp n m i) {x y z : Nat} (hx : x < n) (hy : y < n) (hz : z < n) (e : m x y = m x z) : y = z := by
  rw [← h.inv_mul hx hy, e, h.inv_mul hx hz]
theorem cancel_r (h : Grp n m i) {x y z : Nat} (hx : x < n) (hy : y < n) (hz : z < n) (e : m y x = m z x) : y = z := by
  rw [← h.mul_inv hy hx, e, h.mul_inv hz hx]
theorem inv_inv (h : Grp n m i) {x : Nat} (hx : x < n) : i (i x) = x := by
  have hy := h.il x hx
  exact h.cancel_l hy (h.il _ hy) hx (by rw [h.inv_r _ hy, h.inv_l hx])
theorem inv_prod (h : Grp n m i) {x y : Nat} (hx : x < n) (hy : y < n) : i (m x y) = m (i y) (i x) := by
  have hxy := h.lt x y hx hy
  have hix := h.il x hx; have hiy := h.il y hy
  refine h.cancel_l hxy (h.il _ hxy) (h.lt _ _ hiy hix) ?_
  rw [h.inv_r _ hxy, ← h.assoc _ _ _ hxy hiy hix, h.mul_inv hx hy, h.inv_r _ hx]
theorem inv_zero (h : Grp n m i) (h0 : 0 < n) : i 0 = 0 := by
  have := h.inv_r 0 h0
  rwa [h.one_l _ (h.il 0 h0)] at this
theorem inv_uniq (h : Grp n m i) {x y : Nat} (hx : x < n) (hy : y < n) (e : m x y = 0) : y = i x :=
  h.cancel_l hx hy (h.il x hx) (by rw [e, h.inv_r _ hx])
end Grp
structure Brc (n : Nat) (A C : Nat → Nat → Nat) (ng iv : Nat → Nat) : Prop where
  a : Grp n A ng
  c : Grp n C iv
  br : ∀ x y z, x < n → y < n → z < n → C x (A y z) = A (A (C x y) (ng x)) (C x z)
def lamB (A C : Nat → Nat → Nat) (ng : Nat → Nat) (x y : Nat) : Nat := A (ng x) (C x y)
def rhoB (A C : Nat → Nat → Nat) (ng iv : Nat → Nat) (x y : Nat) : Nat := C (iv (lamB A C ng x y)) (C x y)
namespace Brc
variable {n : Nat} {A C : Nat → Nat → Nat} {ng iv : Nat → Nat}
theorem lam_lt (h : Brc n A C ng iv) {x y : Nat} (hx : x < n) (hy : y < n) : lamB A C ng x y < n :=
  h.a.lt _ _ (h.a.il x hx) (h.c.lt x y hx hy)
theorem rho_lt (h : Brc n A C ng iv) {x y : Nat} (hx : x < n) (hy : y < n) : rhoB A C ng iv x y < n :=
  h.c.lt _ _ (h.c.il _ (h.lam_lt hx hy)) (h.c.lt x y hx hy)
theorem circ (h : Brc n A C ng iv) {x y : Nat} (hx : x < n) (hy : y < n) : A x (lamB A C ng x y) = C x y :=
  h.a.mul_inv' hx (h.c.lt x y hx hy)
theorem prod (h : Brc n A C ng iv) {x y : Nat} (hx : x < n) (hy : y < n) : C (lamB A C ng x y) (rhoB A C ng iv x y) = C x y :=
  h.c.mul_inv' (h.lam_lt hx hy) (h.c.lt x y hx hy)
theorem lam_add (h : Brc n A C ng iv) {x y z : Nat} (hx : x < n) (hy : y < n) (hz : z < n) : lamB A C ng x (A y z) = A (lamB A C ng x y) (lamB A C ng x z) := by
  have hnx := h.a.il x hx
  have hxy := h.c.lt x y hx hy
  have hxz := h.c.lt x z hx hz
  unfold lamB
  rw [h.br x y z hx hy hz, ← h.a.assoc _ _ _ hnx (h.a.lt _ _ hxy hnx) hxz, ← h.a.assoc _ _ _ hnx hxy hnx, h.a.assoc _ _ _ (h.a.lt _ _ hnx hxy) hnx hxz]
theorem lam_zero (h : Brc n A C ng iv) {x : Nat} (hx : x < n) : lamB A C ng x 0 = 0 := by
  unfold lamB; rw [h.c.one_r _ hx, h.a.inv_l hx]
theorem zero_lam (h : Brc n A C ng iv) {y : Nat} (hy : y < n) : lamB A C ng 0 y = y := by
  unfold lamB; rw [h.c.one_l _ hy, h.a.inv_zero (by omega), h.a.one_l _ hy]
theorem lam_neg (h : Brc n A C ng iv) {x y : Nat} (hx : x < n) (hy : y < n) : lamB A C ng x (ng y) = ng (lamB A C ng x y) := by
  have hny := h.a.il y hy
  refine h.a.inv_uniq (h.lam_lt hx hy) (h.lam_lt hx hny) ?_
  rw [← h.lam_add hx hy hny, h.a.inv_r _ hy, h.lam_zero hx]
theorem lam_lam (h : Brc n A C ng iv) {x y z : Nat} (hx : x < n) (hy : y < n) (hz : z < n) : lamB A C ng x (lamB A C ng y z) = lamB A C ng (C x y) z := by
  have hxy := h.c.lt x y hx hy
  have hyz := h.c.lt y z hy hz
  have hny := h.a.il y hy
  have e1 : lamB A C ng x (lamB A C ng y z) = A (ng (lamB A C ng x y)) (lamB A C ng x (C y z)) := by
    rw [show lamB A C ng y z = A (ng y) (C y z) from rfl, h.lam_add hx hny hyz, h.lam_neg hx hy]
  have hlx := h.lam_lt hx hy
  have hlz := h.lam_lt hx hyz
  have e2 : ng (C x y) = A (ng (lamB A C ng x y)) (ng x) := by
    rw [← h.circ hx hy, h.a.inv_prod hx hlx]
  have e3 : lamB A C ng (C x y) z = A (ng (C x y)) (C x (C y z)) := by
    unfold lamB; rw [h.c.assoc _ _ _ hx hy hz]
  rw [e1, e3, e2, h.a.assoc _ _ _ (h.a.il _ hlx) (h.a.il x hx) (h.c.lt _ _ hx hyz)]
  rfl
theorem lam_back (h : Brc n A C ng iv) {x y : Nat} (hx : x < n) (hy : y < n) : lamB A C ng x (lamB A C ng (iv x) y) = y := by
  rw [h.lam_lam hx (h.c.il x hx) hy, h.c.inv_r _ hx, h.zero_lam hy]
theorem back_lam (h : Brc n A C ng iv) {x y : Nat} (hx : x < n) (hy : y < n) : lamB A C ng (iv x) (lamB A C ng x y) = y := by
  rw [h.lam_lam (h.c.il x hx) hx hy, h.c.inv_l hx, h.zero_lam hy]
theorem lam_inj (h : Brc n A C ng iv) {x y z : Nat} (hx : x < n) (hy : y < n) (hz : z < n) (e : lamB A C ng x y = lamB A C ng x z) : y = z := by
  rw [← h.back_lam hx hy, e, h.back_lam hx hz]
theorem lam_circ (h : Brc n A C ng iv) {x y z : Nat} (hx : x < n) (hy : y < n) (hz : z < n) : lamB A C ng x (C y z) = C (lamB A C ng x y) (lamB A C ng (rhoB A C ng iv x y) z) := by
  have hu := h.lam_lt hx hy
  have hv := h.rho_lt hx hy
  rw [← h.circ hu (h.lam_lt hv hz), h.lam_lam hu hv hz, h.prod hx hy, ← h.lam_lam hx hy hz, ← h.lam_add hx hy (h.lam_lt hy hz), h.circ hy hz]
theorem rho_rho (h : Brc n A C ng iv) {x y z : Nat} (hx : x < n) (hy : y < n) (hz : z < n) : rhoB A C ng iv (rhoB A C ng iv x y) z = rhoB A C ng iv x (C y z) := by
  have hu := h.lam_lt hx hy
  have hv := h.rho_lt hx hy
  have hyz := h.c.lt y z hy hz
  have hw := h.lam_lt hv hz
  have hl := h.lam_lt hx hyz
  have hr := h.rho_lt hv hz
  have hR := h.rho_lt hx hyz
  refine h.c.cancel_l hl hr hR ?_
  rw [h.prod hx hyz, h.lam_circ hx hy hz, h.c.assoc _ _ _ hu hw hr, h.prod hv hz, ← h.c.assoc _ _ _ hu hv hz, h.prod hx hy, h.c.assoc _ _ _ hx hy hz]
theorem rho_zero (h : Brc n A C ng iv) {x : Nat} (hx : x < n) : rhoB A C ng iv x 0 = x := by
  have h0 : 0 < n := by omega
  unfold rhoB
  rw [h.lam_zero hx, h.c.inv_zero h0, h.c.one_r _ hx, h.c.one_l _ hx]
theorem zero_rho (h : Brc n A C ng iv) {y : Nat} (hy : y < n) : rhoB A C ng iv 0 y = 0 := by
  unfold rhoB
  rw [h.zero_lam hy, h.c.one_l _ hy, h.c.inv_l hy]
theorem rho_back (h : Brc n A C ng iv) {x y : Nat} (hx : x < n) (hy : y < n) : rhoB A C ng iv (rhoB A C ng iv x y) (iv y) = x := by
  rw [h.rho_rho hx hy (h.c.il y hy), h.c.inv_r _ hy, h.rho_zero hx]
theorem back_rho (h : Brc n A C ng iv) {x y : Nat} (hx : x < n) (hy : y < n) : rhoB A C ng iv (rhoB A C ng iv x (iv y)) y = x := by
  rw [h.rho_rho hx (h.c.il y hy) hy, h.c.inv_l hy, h.rho_zero hx]
theorem rho_inj (h : Brc n A C ng iv) {x y z : Nat} (hx : x < n) (hy : y < n) (hz : z < n) (e : rhoB A C ng iv x z = rhoB A C ng iv y z) : x = y := by
  rw [← h.rho_back hx hz, e, h.rho_back hy hz]
theorem ybe1 (h : Brc n A C ng iv) {x y z : Nat} (hx : x < n) (hy : y < n) (hz : z < n) : lamB A C ng (lamB A C ng x y) (lamB A C ng (rhoB A C ng iv x y) z) = lamB A C ng x (lamB A C ng y z) := by
  rw [h.lam_lam (h.lam_lt hx hy) (h.rho_lt hx hy) hz, h.prod hx hy, h.lam_lam hx hy hz]
theorem ybe3 (h : Brc n A C ng iv) {x y z : Nat} (hx : x < n) (hy : y < n) (hz : z < n) : rhoB A C ng iv (rhoB A C ng iv x (lamB A C ng y z)) (rhoB A C ng iv y z) = rhoB A C ng iv (rhoB A C ng iv x y) z := by
  rw [h.rho_rho hx (h.lam_lt hy hz) (h.rho_lt hy hz), h.prod hy hz, h.rho_rho hx hy hz]
theorem ybe2 (h : Brc n A C ng iv) {x y z : Nat} (hx : x < n) (hy : y < n) (hz : z < n) : rhoB A C ng iv (lamB A C ng x y) (lamB A C ng (rhoB A C ng iv x y) z) = lamB A C ng (rhoB A C ng iv x (lamB A C ng y z)) (rhoB A C ng iv y z) := by
  have hu := h.lam_lt hx hy
  have hv := h.rho_lt hx hy
  have hw := h.lam_lt hy hz
  have hr := h.rho_lt hy hz
  have hvz := h.lam_lt hv hz
  have hxw := h.rho_lt hx hw
  -- the products of all three
  have p1 : C (C (lamB A C ng (lamB A C ng x y) (lamB A C ng (rhoB A C ng iv x y) z)) (rhoB A C ng iv (lamB A C ng x y) (lamB A C ng (rhoB A C ng iv x y) z))) (rhoB A C ng iv (rhoB A C ng iv x y) z) = C (C x y) z := by
    rw [h.prod hu hvz, h.c.assoc _ _ _ hu hvz (h.rho_lt hv hz), h.prod hv hz, ← h.c.assoc _ _ _ hu hv hz, h.prod hx hy]
  have p2 : C (C (lamB A C ng x (lamB A C ng y z)) (lamB A C ng (rhoB A C ng iv x (lamB A C ng y z)) (rhoB A C ng iv y z))) (rhoB A C ng iv (rhoB A C ng iv x (lamB A C ng y z)) (rhoB A C ng iv y z)) = C (C x y) z := by
    rw [h.c.assoc _ _ _ (h.lam_lt hx hw) (h.lam_lt hxw hr) (h.rho_lt hxw hr), h.prod hxw hr, ← h.c.assoc _ _ _ (h.lam_lt hx hw) hxw hr, h.prod hx hw, h.c.assoc _ _ _ hx hw hr, h.prod hy hz, h.c.assoc _ _ _ hx hy hz]
  rw [h.ybe1 hx hy hz] at p1
  rw [h.ybe3 hx hy hz] at p2
  have q := p1.trans p2.symm
  have hL := h.lam_lt hx hw
  have q2 := h.c.cancel_r (h.rho_lt hv hz) (h.c.lt _ _ hL (h.rho_lt hu hvz)) (h.c.lt _ _ hL (h.lam_lt hxw hr)) q
  exact h.c.cancel_l hL (h.rho_lt hu hvz) (h.lam_lt hxw hr) q2
theorem twice (h : Brc n A C ng iv) {x y : Nat} (hx : x < n) (hy : y < n) : lamB A C ng (lamB A C ng x y) (rhoB A C ng iv x y) = A (A (ng (C x y)) x) (C x y) := by
  have hu := h.lam_lt hx hy
  have hxy := h.c.lt x y hx hy
  have e : lamB A C ng (lamB A C ng x y) (rhoB A C ng iv x y) = A (ng (lamB A C ng x y)) (C x y) := by
    rw [show lamB A C ng (lamB A C ng x y) (rhoB A C ng iv x y) = A (ng (lamB A C ng x y)) (C (lamB A C ng x y) (rhoB A C ng iv x y)) from rfl, h.prod hx hy]
  rw [e, show lamB A C ng x y = A (ng x) (C x y) from rfl, h.a.inv_prod (h.a.il x hx) hxy, h.a.inv_inv hx]
theorem invol (h : Brc n A C ng iv) : (∀ x y, x < n → y < n → lamB A C ng (lamB A C ng x y) (rhoB A C ng iv x y) = x ∧ rhoB A C ng iv (lamB A C ng x y) (rhoB A C ng iv x y) = y) ↔ ∀ x y, x < n → y < n → A x y = A y x := by
  constructor
  · intro H x z hx hz
    have hy := h.c.lt _ _ (h.c.il x hx) hz
    obtain ⟨e, _⟩ := H x (C (iv x) z) hx hy
    rw [h.twice hx hy, h.c.mul_inv' hx hz] at e
    have e2 := congrArg (A z) e
    rw [h.a.assoc _ _ _ (h.a.il z hz) hx hz, h.a.mul_inv' hz (h.a.lt _ _ hx hz)] at e2
    exact e2
  · intro H x y hx hy
    have hxy := h.c.lt x y hx hy
    have e1 : lamB A C ng (lamB A C ng x y) (rhoB A C ng iv x y) = x := by
      rw [h.twice hx hy, h.a.assoc _ _ _ (h.a.il _ hxy) hx hxy, H x _ hx hxy, ← h.a.assoc _ _ _ (h.a.il _ hxy) hxy hx, h.a.inv_l hxy, h.a.one_l _ hx]
    have hu := h.lam_lt hx hy
    have hv := h.rho_lt hx hy
    refine ⟨e1, ?_⟩
    have p := h.prod hu hv
    rw [e1, h.prod hx hy] at p
    exact h.c.cancel_l hx (h.rho_lt hu hv) hy p
theorem derived (h : Brc n A C ng iv) {x y z : Nat} (hx : x < n) (hy : y < n) (hz : z < n) (e : lamB A C ng y z = x) : lamB A C ng x (rhoB A C ng iv y z) = A (A (ng x) y) x := by
  have p := h.prod hy hz
  rw [e] at p
  have hv := h.rho_lt hy hz
  rw [show lamB A C ng x (rhoB A C ng iv y z) = A (ng x) (C x (rhoB A C ng iv y z)) from rfl, p, ← h.circ hy hz, e, h.a.assoc _ _ _ (h.a.il x hx) hy hx]
def Soc (n : Nat) (A C : Nat → Nat → Nat) (s : Nat) : Prop := (∀ y, y < n → C s y = A s y) ∧ ∀ y, y < n → A s y = A y s
theorem soc_lam (h : Brc n A C ng iv) {s y : Nat} (hs : s < n) (hy : y < n) (H : ∀ y, y < n → C s y = A s y) : lamB A C ng s y = y := by
  unfold lamB; rw [H y hy, h.a.inv_mul hs hy]
theorem lam_soc (h : Brc n A C ng iv) {s y : Nat} (hs : s < n) (hy : y < n) (H : ∀ y, y < n → lamB A C ng s y = y) : C s y = A s y := by
  rw [← h.circ hs hy, H y hy]
theorem soc_iff (h : Brc n A C ng iv) {s : Nat} (hs : s < n) : Soc n A C s ↔ (∀ y, y < n → lamB A C ng s y = y) ∧ ∀ z, z < n → rhoB A C ng iv z s = z := by
  constructor
  · rintro ⟨h1, h2⟩
    refine ⟨fun y hy => h.soc_lam hs hy h1, fun z hz => ?_⟩
    -- lambda z s is central, too, and acts by nothing
    have hl := h.lam_lt hz hs
    have hr := h.rho_lt hz hs
    have c1 : A z (lamB A C ng z s) = A (lamB A C ng z s) z := by
      have hw := h.lam_lt (h.c.il z hz) hz
      have := congrArg (lamB A C ng z) (h2 _ hw)
      rw [h.lam_add hz hs hw, h.lam_add hz hw hs, h.lam_back hz hz] at this
      exact this.symm
    have p := h.prod hz hs
    have hact : ∀ y, y < n → lamB A C ng (lamB A C ng z s) (lamB A C ng (rhoB A C ng iv z s) y) = lamB A C ng z y := fun y hy => by
      rw [h.lam_lam hl hr hy, p, ← h.lam_lam hz hs hy, h.soc_lam hs hy h1]
    -- z o s = z + lambda z s = lambda z s + z
    have e : C (lamB A C ng z s) (rhoB A C ng iv z s) = A (lamB A C ng z s) z := by rw [p, ← h.circ hz hs, c1]
    -- lambda (lambda z s) is the identity
    have hid : ∀ y, y < n → lamB A C ng (lamB A C ng z s) y = y := by
      intro y hy
      -- lambda z s = z o s o z' up to ..: act by conjugation
      have k1 : C (C z s) (iv z) = lamB A C ng z s := by
        have hzi := h.c.il z hz
        have hzs := h.c.lt z s hz hs
        have hsz := h.c.lt s _ hs hzi
        rw [h.c.assoc _ _ _ hz hs hzi, h1 _ hzi, h.br z s (iv z) hz hs hzi, h.c.inv_r _ hz, h.a.one_r _ (h.a.lt _ _ hzs (h.a.il z hz)), ← h.circ hz hs, c1, h.a.mul_inv hl hz]
      rw [← k1, ← h.lam_lam (h.c.lt z s hz hs) (h.c.il z hz) hy, ← h.lam_lam hz hs (h.lam_lt (h.c.il z hz) hy), h.soc_lam hs (h.lam_lt (h.c.il z hz) hy) h1, h.lam_back hz hy]
    have e2 : C (lamB A C ng z s) (rhoB A C ng iv z s) = A (lamB A C ng z s) (rhoB A C ng iv z s) := by rw [← h.circ hl hr, hid _ hr]
    exact h.a.cancel_l hl hr hz (e2.symm.trans e)
  · rintro ⟨h1, h2⟩
    refine ⟨fun y hy => h.lam_soc hs hy h1, fun y hy => ?_⟩
    -- y = - z' for z = (- y)': lambda z' z = - z'
    have hny := h.a.il y hy
    have hz := h.c.il _ hny
    obtain ⟨z, hzz⟩ : ∃ z, z = iv (ng y) := ⟨_, rfl⟩
    rw [← hzz] at hz
    have hzi : iv z = ng y := by rw [hzz, h.c.inv_inv hny]
    have hl := h.lam_lt hz hs
    have p := h.prod hz hs
    rw [h2 z hz] at p
    have hid : ∀ y, y < n → lamB A C ng (lamB A C ng z s) y = y := by
      intro y hy
      have k : lamB A C ng z s = C (C z s) (iv z) := by rw [← p, h.c.mul_inv hl hz]
      rw [k, ← h.lam_lam (h.c.lt z s hz hs) (h.c.il z hz) hy, ← h.lam_lam hz hs (h.lam_lt (h.c.il z hz) hy), h1 _ (h.lam_lt (h.c.il z hz) hy), h.lam_back hz hy]
    have c1 : A (lamB A C ng z s) z = A z (lamB A C ng z s) := by
      rw [h.circ hz hs, ← p, ← h.circ hl hz, hid z hz]
    have hw : lamB A C ng (iv z) z = y := by
      unfold lamB
      rw [hzi, h.a.inv_inv hy]
      rw [← hzi, h.c.inv_l hz, h.a.one_r y hy]
    have := congrArg (lamB A C ng (iv z)) c1
    rw [h.lam_add (h.c.il z hz) hl hz, h.lam_add (h.c.il z hz) hz hl, h.back_lam hz hs, hw] at this
    exact this
end Brc
end Go.Proofs.YtiliimkfobfbnaaGreat
