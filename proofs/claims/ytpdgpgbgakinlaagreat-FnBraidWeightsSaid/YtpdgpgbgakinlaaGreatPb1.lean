/-
  Walks and plain laws of this seat, some texts in one.
  No condition but bounds on lengths.
-/
import Derived.Test.YtpdgpgbgakinlaaGreatRows
import Derived.WalkKit
import Derived.WalkSpells
import Derived.WalkLawsBesides
import Derived.Deep.QuietTactic
import Derived.BigQuiet
import Derived.Lib.Hide
import Derived.Deep.Draws
namespace Go.Proofs.YtpdgpgbgakinlaaGreat
set_option linter.unusedVariables false
set_option linter.unusedSimpArgs false
open Go.RowKit
theorem info_int : (Tryz.prog.info? 2).map (fun i => (i.zero, i.size, i.bytes)) = some (some (.int .i64 0), 1, 8) := by kernel_rfl
theorem und_ints : Tryz.prog.underlying 27 = some (.slice 2) := by kernel_rfl
theorem ret_bool {a b : Bool} (h : a = b) : Ending.returned (.bool a) = .returned (.bool b) := by rw [h]
theorem ret_int {k : IntKind} {a b : Int} (h : a = b) : Ending.returned (.int k a) = .returned (.int k b) := by rw [h]
theorem quiet_same2 {P : Program} {f : FuncId} {args : Array Value} {w : World} {m n : Nat} {v : Value} (h : Calls P f args (w.drewN (m + n)) fun e w' => e = .returned v ∧ w' = w.drewN (m + n)) :
    Calls P f args (w.drewN (m + n)) fun e w'' => e = .returned v ∧ ∃ k, w'' = w.drewN (m + k) := h.mono fun _ _ ⟨he, hm⟩ => ⟨he, n, hm⟩
/-! ### A block of the call's own -/
def Loc (w : World) (b : Nat) (cs : Array Value) (t : TypeId) : Prop := w.heap[b]? = some (.cells cs t (0, 0))
theorem Loc.cell {w : World} {b : Nat} {cs : Array Value} {t : TypeId} (h : Loc w b cs t) (i : Nat) {v : Value} (hi : cs[i]? = some v) : w.cell? ⟨b, i, none⟩ = some v := by
  unfold Loc at h; simp [World.cell?, h, hi]
theorem Loc.free {w : World} {b : Nat} {cs : Array Value} {t : TypeId} (h : Loc w b cs t) (i : Nat) : w.frozen? ⟨b, i, none⟩ = false := by
  unfold Loc at h; simp [World.frozen?, h]
theorem Loc.lt {w : World} {b : Nat} {cs : Array Value} {t : TypeId} (h : Loc w b cs t) : b < w.heap.size := lt_of_block h
theorem Loc.new (w : World) {b : Nat} (hb : b = w.heap.size) (cs : Array Value) (t : TypeId) : Loc (w.alloc (.cells cs t)) b cs t := by
  subst hb; exact heap_alloc_new w _
theorem Loc.alloc {w : World} {b : Nat} {cs : Array Value} {t : TypeId} (h : Loc w b cs t) (o : Obj) : Loc (w.alloc o) b cs t :=
  ((Below.heap_alloc w o b h.lt)).trans h
theorem Loc.drew {w : World} {b : Nat} {cs : Array Value} {t : TypeId} (h : Loc w b cs t) : Loc w.drew b cs t := h
theorem Loc.drewN {w : World} {b : Nat} {cs : Array Value} {t : TypeId} (h : Loc w b cs t) (n : Nat) : Loc (w.drewN n) b cs t := h
theorem Loc.set {w : World} {b : Nat} {cs : Array Value} {t : TypeId} (h : Loc w b cs t) (i : Nat) (u : Value) : Loc (w.setCell ⟨b, i, none⟩ u) b (cs.setIfInBounds i u) t := by
  have hlt := h.lt
  unfold Loc at *
  have h' : w.heap[b] = .cells cs t (0, 0) := by simpa [Array.getElem?_eq_getElem hlt] using h
  show (w.heap.modify b _)[b]? = _
  rw [Array.getElem?_eq_getElem (by simpa using hlt), Array.getElem_modify_self, h']
  rfl
theorem Loc.setne {w : World} {b : Nat} {cs : Array Value} {t : TypeId} (h : Loc w b cs t) {a : Addr} (hb : b ≠ a.block) (u : Value) : Loc (w.setCell a u) b cs t :=
  (Below.heap_setCell w a u b hb).trans h
theorem Loc.below {w w' : World} {B b : Nat} {cs : Array Value} {t : TypeId} (h : Loc w b cs t) (hb : Below B w w') (hlt : b < B) : Loc w' b cs t := (hb.block b hlt).trans h
theorem Loc.grown {w w' : World} {b : Nat} {row : Option Nat} {cs : Array Value} {t : TypeId} (h : Loc w b cs t) (hg : w.grownBy w' row) (hne : some b ≠ row) : Loc w' b cs t := (hg.block b h.lt hne).trans h
theorem below_setne {w w' : World} {B : Nat} (h : Below B w w') {a : Addr} (ha : B ≤ a.block) (u : Value) : Below B w (w'.setCell a u) := h.setCell ha u
theorem cell_setne {w : World} {p a : Addr} {v : Value} (h : w.cell? p = some v) (hne : p.block ≠ a.block) (u : Value) : (w.setCell a u).cell? p = some v :=
  (World.cell?_of_block (Below.heap_setCell w a u p.block hne)).trans h
theorem size_set (w : World) (a : Addr) (u : Value) : (w.setCell a u).heap.size = w.heap.size := by simp [World.setCell]
theorem below_al {w0 w : World} (h : Below w0.heap.size w0 w) (o : Obj) : Below w0.heap.size w0 (w.alloc o) := h.alloc h.size o
theorem below_th {w0 w w' : World} (h : Below w0.heap.size w0 w) (k : Below w.heap.size w w') : Below w0.heap.size w0 w' := h.trans (k.mono h.size)
theorem below_alth {w0 w w' : World} {o : Obj} (h : Below w0.heap.size w0 w) (k : Below (w.alloc o).heap.size (w.alloc o) w') : Below w0.heap.size w0 w' := below_th (below_al h o) k
theorem size_le_alloc (w : World) (o : Obj) : w.heap.size ≤ (w.alloc o).heap.size := by simp
theorem size_alloc (w : World) (o : Obj) : (w.alloc o).heap.size = w.heap.size + 1 := by simp
theorem Loc.one {w : World} {b : Nat} {x : Value} {t : TypeId} (h : Loc w b #[x] t) : w.cell? ⟨b, 0, none⟩ = some x ∧ w.frozen? ⟨b, 0, none⟩ = false := ⟨h.cell 0 rfl, h.free 0⟩
theorem Loc.two {w : World} {b : Nat} {x y : Value} {t : TypeId} (h : Loc w b #[x, y] t) : w.cell? ⟨b, 0, none⟩ = some x ∧ w.cell? ⟨b, 1, none⟩ = some y ∧ w.frozen? ⟨b, 0, none⟩ = false ∧ w.frozen? ⟨b, 1, none⟩ = false :=
  ⟨h.cell 0 rfl, h.cell 1 rfl, h.free 0, h.free 1⟩
theorem Loc.three {w : World} {b : Nat} {x y z : Value} {t : TypeId} (h : Loc w b #[x, y, z] t) : w.cell? ⟨b, 0, none⟩ = some x ∧ w.cell? ⟨b, 1, none⟩ = some y ∧ w.cell? ⟨b, 2, none⟩ = some z ∧ w.frozen? ⟨b, 0, none⟩ = false ∧ w.frozen? ⟨b, 1, none⟩ = false ∧ w.frozen? ⟨b, 2, none⟩ = false :=
  ⟨h.cell 0 rfl, h.cell 1 rfl, h.cell 2 rfl, h.free 0, h.free 1, h.free 2⟩
/-! ### A slice of numbers that is read -/
def Row (w : World) (a : Option Addr) (n : Nat) (xs : List Int) : Prop :=
  n = xs.length ∧ ∀ i, i < n → ∃ b off, a = some ⟨b, off, none⟩ ∧ b < w.heap.size ∧ w.cell? ⟨b, off + i, none⟩ = some (.int .i64 (xs.getD i 0))
theorem Row.nil (w : World) (a : Option Addr) : Row w a 0 [] := ⟨rfl, fun i h => absurd h (by omega)⟩
theorem Row.len {w : World} {a : Option Addr} {n : Nat} {xs : List Int} (h : Row w a n xs) : n = xs.length := h.1
theorem Row.at {w : World} {a : Option Addr} {n : Nat} {xs : List Int} (h : Row w a n xs) (i : Nat) (hi : i < n) : ∃ b off, a = some ⟨b, off, none⟩ ∧ w.cell? ⟨b, off + i, none⟩ = some (.int .i64 (xs.getD i 0)) := by
  obtain ⟨b, off, h1, _, h2⟩ := h.2 i hi; exact ⟨b, off, h1, h2⟩
theorem Row.all {w : World} {a : Option Addr} {n : Nat} {xs : List Int} (h : Row w a n xs) (hn : 0 < n) : ∃ b off, a = some ⟨b, off, none⟩ ∧ b < w.heap.size ∧ ∀ i, i < n → w.cell? ⟨b, off + i, none⟩ = some (.int .i64 (xs.getD i 0)) := by
  obtain ⟨b, off, h1, h3, h2⟩ := h.2 0 hn
  refine ⟨b, off, h1, h3, fun i hi => ?_⟩
  obtain ⟨b', off', h4, _, h5⟩ := h.2 i hi
  rw [h1] at h4; cases h4; exact h5
theorem Row.below {w w' : World} {a : Option Addr} {n : Nat} {xs : List Int} (h : Row w a n xs) (hb : Below w.heap.size w w') : Row w' a n xs :=
  ⟨h.1, fun i hi => by obtain ⟨b, off, h1, h3, h2⟩ := h.2 i hi; exact ⟨b, off, h1, Nat.lt_of_lt_of_le h3 hb.size, (hb.cell (p := ⟨b, off + i, none⟩) h3).trans h2⟩⟩
theorem Row.drewN {w : World} {a : Option Addr} {n : Nat} {xs : List Int} (h : Row w a n xs) (k : Nat) : Row (w.drewN k) a n xs := h
theorem Row.alloc {w : World} {a : Option Addr} {n : Nat} {xs : List Int} (h : Row w a n xs) (o : Obj) : Row (w.alloc o) a n xs := h.below ((Below.refl _ _).alloc (Nat.le_refl _) o)
/-! ### A slice of numbers that the call owns (its block lies from 'lo' on) -/
def Own (w : World) (lo : Nat) (a : Option Addr) (n c : Nat) (xs : List Int) : Prop := n = xs.length ∧ w.ownsRow lo 2 1 (.slice a n c) n (xs.map (.int .i64))
theorem Own.nil (w : World) (lo : Nat) : Own w lo none 0 0 [] := ⟨rfl, World.ownsRow_nil w lo _ 1⟩
theorem Own.len {w : World} {lo : Nat} {a : Option Addr} {n c : Nat} {xs : List Int} (h : Own w lo a n c xs) : n = xs.length := h.1
theorem Own.alloc {w : World} {lo : Nat} {a : Option Addr} {n c : Nat} {xs : List Int} (h : Own w lo a n c xs) (o : Obj) : Own (w.alloc o) lo a n c xs := ⟨h.1, h.2.alloc o⟩
theorem Own.drew {w : World} {lo : Nat} {a : Option Addr} {n c : Nat} {xs : List Int} (h : Own w lo a n c xs) : Own w.drew lo a n c xs := h
theorem Own.drewN {w : World} {lo : Nat} {a : Option Addr} {n c : Nat} {xs : List Int} (h : Own w lo a n c xs) (k : Nat) : Own (w.drewN k) lo a n c xs := h
theorem Own.block {w : World} {lo : Nat} {a : Option Addr} {n c : Nat} {xs : List Int} (h : Own w lo a n c xs) : (a = none ∧ n = 0 ∧ c = 0) ∨ ∃ g cur, a = some ⟨g, 0, none⟩ ∧ lo ≤ g ∧ Loc w g cur 2 ∧ n ≤ c ∧ c ≤ maxLen ∧ cur.size = c ∧ cur.toList.take n = xs.map (.int .i64) := by
  rcases h.2.2 with ⟨h1, h2⟩ | ⟨g, cap, cur, h1, h2, h3, h4, h5, h6, h7⟩
  · cases h1; exact .inl ⟨rfl, rfl, rfl⟩
  · cases h1; exact .inr ⟨g, cur, rfl, h2, h3, h4, h5, by simpa using h6, by simpa using h7⟩
theorem Own.mk {w : World} {lo : Nat} {g n c : Nat} {xs : List Int} {cur : Array Value} (hn : n = xs.length) (h1 : lo ≤ g) (h2 : Loc w g cur 2) (h3 : n ≤ c) (h4 : c ≤ maxLen) (h5 : cur.size = c) (h6 : cur.toList.take n = xs.map (.int .i64)) : Own w lo (some ⟨g, 0, none⟩) n c xs :=
  ⟨hn, by simp [hn], .inr ⟨g, c, cur, rfl, h1, h2, h3, h4, by simpa using h5, by simpa using h6⟩⟩
theorem Own.lt {w : World} {lo : Nat} {g o n c : Nat} {xs : List Int} (h : Own w lo (some ⟨g, o, none⟩) n c xs) : lo ≤ g ∧ g < w.heap.size := by
  rcases h.block with ⟨h1, _⟩ | ⟨g', cur, h1, h2, h3, _⟩
  · cases h1
  · cases h1; exact ⟨h2, h3.lt⟩
theorem Own.mono {w : World} {lo lo' : Nat} {a : Option Addr} {n c : Nat} {xs : List Int} (h : Own w lo a n c xs) (hl : lo' ≤ lo) : Own w lo' a n c xs := by
  rcases h.block with ⟨rfl, rfl, rfl⟩ | ⟨g, cur, rfl, h2, h3, h4, h5, h6, h7⟩
  · have : xs = [] := List.eq_nil_of_length_eq_zero h.1.symm
    subst this; exact Own.nil _ _
  · exact Own.mk h.1 (by omega) h3 h4 h5 h6 h7
theorem Own.keep {w w' : World} {lo : Nat} {a : Option Addr} {n c : Nat} {xs : List Int} (h : Own w lo a n c xs) (hk : ∀ g, a = some ⟨g, 0, none⟩ → g < w.heap.size → w'.heap[g]? = w.heap[g]?) : Own w' lo a n c xs := by
  rcases h.block with ⟨rfl, rfl, rfl⟩ | ⟨g, cur, rfl, h2, h3, h4, h5, h6, h7⟩
  · have : xs = [] := List.eq_nil_of_length_eq_zero h.1.symm
    subst this; exact Own.nil _ _
  · exact Own.mk h.1 h2 ((hk g rfl h3.lt).trans h3) h4 h5 h6 h7
theorem Own.below {w w' : World} {lo : Nat} {a : Option Addr} {n c : Nat} {xs : List Int} (h : Own w lo a n c xs) (hb : Below w.heap.size w w') : Own w' lo a n c xs := h.keep fun g _ hlt => hb.block g hlt
theorem Own.setne {w : World} {lo : Nat} {a : Option Addr} {n c : Nat} {xs : List Int} (h : Own w lo a n c xs) {p : Addr} (hp : ∀ g, a = some ⟨g, 0, none⟩ → g ≠ p.block) (u : Value) : Own (w.setCell p u) lo a n c xs := h.keep fun g hg _ => Below.heap_setCell _ _ _ _ (hp g hg)
theorem Own.setlo {w : World} {lo : Nat} {a : Option Addr} {n c : Nat} {xs : List Int} (h : Own w lo a n c xs) {p : Addr} (hp : p.block < lo) (u : Value) : Own (w.setCell p u) lo a n c xs := by
  refine h.setne (fun g hg => ?_) u
  subst hg; have := h.lt; omega
theorem Own.grown {w w' : World} {lo : Nat} {a : Option Addr} {n c : Nat} {xs : List Int} {row : Option Nat} (h : Own w lo a n c xs) (hg : w.grownBy w' row) (hne : ∀ g, a = some ⟨g, 0, none⟩ → some g ≠ row) : Own w' lo a n c xs := h.keep fun g hg' hlt => hg.block g hlt (hne g hg')
theorem Own.cap {w : World} {lo : Nat} {a : Option Addr} {n c : Nat} {xs : List Int} (h : Own w lo a n c xs) : n ≤ c ∧ c ≤ 9223372036854775807 := by
  rcases h.block with ⟨rfl, rfl, rfl⟩ | ⟨g, cur, rfl, h2, h3, h4, h5, h6, h7⟩
  · omega
  · unfold maxLen at h5; omega
theorem Own.cells {w : World} {lo : Nat} {g o n c : Nat} {xs : List Int} (h : Own w lo (some ⟨g, o, none⟩) n c xs) : o = 0 ∧ (∀ i, i < n → w.cell? ⟨g, i, none⟩ = some (.int .i64 (xs.getD i 0))) ∧ (∀ i, w.frozen? ⟨g, i, none⟩ = false) := by
  rcases h.block with ⟨h1, _⟩ | ⟨g', cur, h1, h2, h3, h4, h5, h6, h7⟩
  · cases h1
  · cases h1
    refine ⟨rfl, fun i hi => h3.cell i ?_, fun i => h3.free i⟩
    have hx : (cur.toList.take n)[i]? = (xs.map (Value.int .i64))[i]? := by rw [h7]
    have hxi : i < xs.length := by have := h.1; omega
    rw [List.getElem?_take, if_pos hi] at hx
    simp [List.getElem?_eq_getElem hxi] at hx
    simp [List.getD_eq_getElem?_getD, List.getElem?_eq_getElem hxi, hx]
theorem Own.row {w : World} {lo : Nat} {a : Option Addr} {n c : Nat} {xs : List Int} (h : Own w lo a n c xs) : Row w a n xs := by
  refine ⟨h.1, fun i hi => ?_⟩
  rcases h.block with ⟨rfl, rfl, rfl⟩ | ⟨g, cur, rfl, h2, h3, _⟩
  · omega
  · exact ⟨g, 0, rfl, h3.lt, by simpa using h.cells.2.1 i hi⟩
theorem Own.set {w : World} {lo : Nat} {g n c : Nat} {xs : List Int} (h : Own w lo (some ⟨g, 0, none⟩) n c xs) (i : Nat) (x : Int) : Own (w.setCell ⟨g, i, none⟩ (.int .i64 x)) lo (some ⟨g, 0, none⟩) n c (xs.set i x) := by
  rcases h.block with ⟨h1, _⟩ | ⟨g', cur, h1, h2, h3, h4, h5, h6, h7⟩
  · cases h1
  · cases h1
    refine Own.mk (by simp [h.1]) h2 (h3.set i _) h4 h5 (by simpa using h6) ?_
    rw [Array.toList_setIfInBounds, List.take_set, h7, List.map_set]
theorem Own.hi {w : World} {lo : Nat} {a : Option Addr} {n c : Nat} {xs : List Int} (h : Own w lo a n c xs) : ∀ g, a = some ⟨g, 0, none⟩ → g < w.heap.size := fun g hg => by subst hg; exact h.lt.2
theorem Own.lo {w : World} {lo : Nat} {a : Option Addr} {n c : Nat} {xs : List Int} (h : Own w lo a n c xs) : ∀ g, a = some ⟨g, 0, none⟩ → lo ≤ g := fun g hg => by subst hg; exact h.lt.1
theorem app1 {ops : Array Oper} {rest : List Oper} {o : Oper} {a : Act} {Q : Exit → Act → World → Prop} {w : World} (hgd : o.guard = none) {s x : Operand}
    (ho : o.op = .call { callee := .builtin .append, args := #[s, x], argTypes := #[27, 27] }) {lo : Nat} {ad : Option Addr} {n c : Nat} {xs : List Int} (hown : Own w lo ad n c xs) (hs : a.eval s = .slice ad n c)
    {y : Int} {t : TypeId} (hx : a.eval x = .slice (some ⟨w.heap.size, 0, none⟩) 1 1) (hlen : n + 1 ≤ 1000000000000) (hlo : lo ≤ w.heap.size)
    (h : ∀ g c' w', Own w' lo (some ⟨g, 0, none⟩) (n + 1) c' (xs ++ [y]) → w.grownBy w' (Value.slice ad n c).ownBlock → w.heap.size < w'.heap.size → Below lo w w' → wpList Tryz.prog ops Q rest (a.put o.dst (.slice (some ⟨g, 0, none⟩) (n + 1) c')) w') :
    wpList Tryz.prog ops Q (o :: rest) a (w.alloc (.cells #[.int .i64 y] t)) := by
  obtain ⟨i0, hi, hz0, hz1, hz2⟩ := info_parts info_int
  obtain ⟨hn, hown⟩ := hown
  refine wpList_append_own _ hgd s x 27 ho lo 2 i0 (.int .i64 0) 1 8 und_ints hi hz0 hz1 hz2 rfl (by decide) _ n (xs.map (.int .i64)) hs (hown.alloc _) ⟨w.heap.size, 0, none⟩ 1 1 [.int .i64 y] hx rfl (cell_one_new _ _ _) ?_ ?_ ?_ ?_ ?_
  · intro u hu; simp at hu; subst hu; rfl
  · unfold maxLen; omega
  · omega
  · simp; omega
  · intro v' w' ho' hg hv'
    have hg' : w.grownBy w' (Value.slice ad n c).ownBlock := by
      have h1 := World.grownBy_alloc w (.cells #[.int .i64 y] t) (Value.slice ad n c).ownBlock
      exact ⟨hg.os.trans h1.os, hg.tape.trans h1.tape, hg.output.trans h1.output, Nat.le_trans h1.size hg.size, fun k hk hn => (hg.block k (by have := h1.size; omega) hn).trans (h1.block k hk hn)⟩
    obtain ⟨hl, h2⟩ := ho'
    rcases h2 with ⟨rfl, h2⟩ | ⟨g, cap, cur, rfl, h2⟩
    · simp at h2
    · refine h g cap w' ⟨by simp [hn], by simpa using hl, .inr ⟨g, cap, cur, rfl, ?_⟩⟩ hg' ?_ ?_
      · simpa using h2
      · have := hg.size; simp at this; omega
      · exact (Below.refl _ _).grown hg' hlo (fun k hk => (World.ownsRow.lt hown k hk).1)
theorem make1 {ops : Array Oper} {rest : List Oper} {o : Oper} {a : Act} {Q : Exit → Act → World → Prop} {w : World} (hgd : o.guard = none) {l c : Operand}
    (ho : o.op = Op.makeSlice 27 l c) {n : Nat} (hl : a.eval l = .int .i64 n) (hc : a.eval c = .int .i64 n) (hn : n ≤ 1000000000000)
    (h : ∀ w', Own w' w.heap.size (some ⟨w.heap.size, 0, none⟩) n n (List.replicate n 0) → w.heap.size < w'.heap.size → Below w.heap.size w w' → wpList Tryz.prog ops Q rest (a.put o.dst (.slice (some ⟨w.heap.size, 0, none⟩) n n)) w') :
    wpList Tryz.prog ops Q (o :: rest) a w := by
  obtain ⟨i0, hi, hz0, hz1, hz2⟩ := info_parts info_int
  refine wpList_make_full w hgd l c 27 ho w.heap.size 2 i0 (.int .i64 0) 1 und_ints hi hz0 hz1 .i64 .i64 n n n hl hc rfl rfl (by rw [hz2]; omega) (by unfold maxLen; omega) (Nat.le_refl _) ?_
  intro w' ho' hg
  refine h w' ⟨by simp, ?_⟩ ?_ ((Below.refl _ _).grown hg (Nat.le_refl _) (by simp))
  · have e : (madeCells (Value.int IntKind.i64 0).cells (n * 1)).toList = (List.replicate n (0 : Int)).map (.int .i64) := by
      rw [Nat.mul_one, List.map_replicate]; exact toList_madeCells_one _ _
    rw [e] at ho'; exact ho'
  · rcases ho'.2 with ⟨h1, _⟩ | ⟨g, cap, cur, h1, h2, h3, _⟩
    · cases h1
    · cases h1; exact lt_of_block h3
end Go.Proofs.YtpdgpgbgakinlaaGreat

namespace Go.Proofs.YtpdgpgbgakinlaaGreat
set_option maxRecDepth 100000
set_option linter.unusedVariables false
set_option linter.unusedSimpArgs false
open Go.RowKit
def Tbl (w : World) (a : Option Addr) (n : Nat) (xss : List (List Int)) : Prop :=
  n = xss.length ∧ ∀ i, i < n → ∃ b off ai ni ci, a = some ⟨b, off, none⟩ ∧ b < w.heap.size ∧ w.cell? ⟨b, off + i, none⟩ = some (.slice ai ni ci) ∧ Row w ai ni (xss.getD i []) ∧ ni ≤ 9223372036854775807
theorem Tbl.nil (w : World) (a : Option Addr) : Tbl w a 0 [] := ⟨rfl, fun i h => absurd h (by omega)⟩
theorem Tbl.len {w : World} {a : Option Addr} {n : Nat} {xss : List (List Int)} (h : Tbl w a n xss) : n = xss.length := h.1
theorem Tbl.at {w : World} {a : Option Addr} {n : Nat} {xss : List (List Int)} (h : Tbl w a n xss) (i : Nat) (hi : i < n) : ∃ b off ai ni ci, a = some ⟨b, off, none⟩ ∧ w.cell? ⟨b, off + i, none⟩ = some (.slice ai ni ci) ∧ Row w ai ni (xss.getD i []) ∧ ni ≤ 9223372036854775807 := by
  obtain ⟨b, off, ai, ni, ci, h1, _, h2⟩ := h.2 i hi; exact ⟨b, off, ai, ni, ci, h1, h2⟩
theorem Tbl.below {w w' : World} {a : Option Addr} {n : Nat} {xss : List (List Int)} (h : Tbl w a n xss) (hb : Below w.heap.size w w') : Tbl w' a n xss :=
  ⟨h.1, fun i hi => by obtain ⟨b, off, ai, ni, ci, h1, h3, h2, h4, h5⟩ := h.2 i hi; exact ⟨b, off, ai, ni, ci, h1, Nat.lt_of_lt_of_le h3 hb.size, (hb.cell (p := ⟨b, off + i, none⟩) h3).trans h2, h4.below hb, h5⟩⟩
theorem Tbl.drewN {w : World} {a : Option Addr} {n : Nat} {xss : List (List Int)} (h : Tbl w a n xss) (k : Nat) : Tbl (w.drewN k) a n xss := h
theorem Tbl.alloc {w : World} {a : Option Addr} {n : Nat} {xss : List (List Int)} (h : Tbl w a n xss) (o : Obj) : Tbl (w.alloc o) a n xss := h.below ((Below.refl _ _).alloc (Nat.le_refl _) o)
theorem Tbl.getD {xss : List (List Int)} {i : Nat} (h : i < xss.length) : xss.getD i [] = xss[i] := by simp [List.getD_eq_getElem?_getD, List.getElem?_eq_getElem h]
end Go.Proofs.YtpdgpgbgakinlaaGreat

namespace Go.Proofs.YtpdgpgbgakinlaaGreat
set_option maxRecDepth 100000
set_option linter.unusedVariables false
set_option linter.unusedSimpArgs false
open Go.RowKit
structure Touch (S : Nat → Prop) (w w' : World) : Prop where
  os : w'.os = w.os
  tape : w'.tape = w.tape
  output : w'.output = w.output
  size : w'.heap.size = w.heap.size
  block : ∀ k, ¬ S k → w'.heap[k]? = w.heap[k]?
theorem Touch.refl (S : Nat → Prop) (w : World) : Touch S w w := ⟨rfl, rfl, rfl, rfl, fun _ _ => rfl⟩
theorem Touch.trans {S : Nat → Prop} {a b c : World} (h : Touch S a b) (k : Touch S b c) : Touch S a c :=
  ⟨k.os.trans h.os, k.tape.trans h.tape, k.output.trans h.output, k.size.trans h.size, fun i hi => (k.block i hi).trans (h.block i hi)⟩
theorem Touch.set {S : Nat → Prop} {a b : World} (h : Touch S a b) {p : Addr} (hp : S p.block) (u : Value) : Touch S a (b.setCell p u) :=
  h.trans ⟨rfl, rfl, rfl, by simp [World.setCell], fun k hk => Below.heap_setCell _ _ _ _ (fun e => hk (e ▸ hp))⟩
theorem Touch.mono {S T : Nat → Prop} {a b : World} (h : Touch S a b) (hS : ∀ k, S k → T k) : Touch T a b := ⟨h.os, h.tape, h.output, h.size, fun k hk => h.block k (fun hs => hk (hS k hs))⟩
theorem Touch.drewN {S : Nat → Prop} {a b : World} (h : Touch S a b) (n : Nat) : Touch S a (b.drewN n) := ⟨h.os, h.tape, h.output, h.size, h.block⟩
theorem Touch.below {S : Nat → Prop} {B : Nat} {a b c : World} (h : Below B a b) (ht : Touch S b c) (hS : ∀ k, S k → B ≤ k) : Below B a c :=
  h.trans ⟨ht.os, ht.tape, ht.output, by rw [ht.size]; exact Nat.le_refl _, fun k hk => ht.block k (fun hs => by have := hS k hs; omega)⟩
theorem take_eq_succ {xs ys : List Int} {k : Nat} (hx : k < xs.length) (hy : k < ys.length) (h : xs.take k = ys.take k) (he : xs[k] = ys[k]) : xs.take (k + 1) = ys.take (k + 1) := by
  rw [List.take_succ_eq_append_getElem hx, List.take_succ_eq_append_getElem hy, h, he]
/-! ### sz -/
/-! ### eq -/
/-! ### held -/
/-! ### mark -/
/-! ### to -/
end Go.Proofs.YtpdgpgbgakinlaaGreat

namespace Go.Proofs.YtpdgpgbgakinlaaGreat
set_option maxRecDepth 100000
set_option linter.unusedVariables false
set_option linter.unusedSimpArgs false
open Go.RowKit
theorem info_rows : (Tryz.prog.info? 27).map (fun i => (i.zero, i.size, i.bytes)) = some (some (.slice none 0 0), 1, 24) := by kernel_rfl
theorem und_rows : Tryz.prog.underlying 24 = some (.slice 27) := by kernel_rfl
abbrev SV := Option Addr × Nat × Nat
def sl (v : SV) : Value := .slice v.1 v.2.1 v.2.2
abbrev svO : SV := (none, 0, 0)
def Apart (a b : Option Addr) : Prop := ∀ g, a = some ⟨g, 0, none⟩ → b ≠ some ⟨g, 0, none⟩
theorem Apart.symm {a b : Option Addr} (h : Apart a b) : Apart b a := fun g h1 h2 => h g h2 h1
structure OwnT (w : World) (lo : Nat) (a : Option Addr) (n c : Nat) (vs : List SV) (xss : List (List Int)) : Prop where
  len : n = xss.length
  vlen : vs.length = n
  hdr : w.ownsRow lo 27 1 (.slice a n c) n (vs.map sl)
  row : ∀ i, i < n → Own w lo (vs.getD i svO).1 (vs.getD i svO).2.1 (vs.getD i svO).2.2 (xss.getD i [])
  ap : ∀ i, i < n → Apart a (vs.getD i svO).1
  pw : ∀ i j, i < n → j < n → i ≠ j → Apart (vs.getD i svO).1 (vs.getD j svO).1
section
variable {w w' : World} {lo : Nat} {a : Option Addr} {n c : Nat} {vs : List SV} {xss : List (List Int)}
theorem OwnT.nil (w : World) (lo : Nat) : OwnT w lo none 0 0 [] [] :=
  ⟨rfl, rfl, World.ownsRow_nil w lo _ 1, fun i h => absurd h (by omega), fun i h => absurd h (by omega), fun i j h => absurd h (by omega)⟩
theorem OwnT.block (h : OwnT w lo a n c vs xss) : (a = none ∧ n = 0 ∧ c = 0) ∨ ∃ g cur, a = some ⟨g, 0, none⟩ ∧ lo ≤ g ∧ Loc w g cur 27 ∧ n ≤ c ∧ c ≤ maxLen ∧ cur.size = c ∧ cur.toList.take n = vs.map sl := by
  rcases h.hdr.2 with ⟨h1, h2⟩ | ⟨g, cap, cur, h1, h2, h3, h4, h5, h6, h7⟩
  · cases h1; exact .inl ⟨rfl, rfl, rfl⟩
  · cases h1; exact .inr ⟨g, cur, rfl, h2, h3, h4, h5, by simpa using h6, by simpa using h7⟩
theorem ownsRow_mk {w : World} {lo g n c : Nat} {vs : List SV} {cur : Array Value} (hn : vs.length = n) (h1 : lo ≤ g) (h2 : Loc w g cur 27) (h3 : n ≤ c) (h4 : c ≤ maxLen) (h5 : cur.size = c) (h6 : cur.toList.take n = vs.map sl) :
    w.ownsRow lo 27 1 (.slice (some ⟨g, 0, none⟩) n c) n (vs.map sl) :=
  ⟨by simp [hn], .inr ⟨g, c, cur, rfl, h1, h2, h3, h4, by simpa using h5, by simpa using h6⟩⟩
theorem OwnT.high (h : OwnT w lo a n c vs xss) : ∀ g, a = some ⟨g, 0, none⟩ → g < w.heap.size := by
  intro g hg
  rcases h.block with ⟨h1, _⟩ | ⟨g', cur, h1, h2, h3, _⟩
  · rw [h1] at hg; cases hg
  · rw [h1] at hg; cases hg; exact h3.lt
theorem OwnT.low (h : OwnT w lo a n c vs xss) : ∀ g, a = some ⟨g, 0, none⟩ → lo ≤ g := by
  intro g hg
  rcases h.block with ⟨h1, _⟩ | ⟨g', cur, h1, h2, h3, _⟩
  · rw [h1] at hg; cases hg
  · rw [h1] at hg; cases hg; exact h2
theorem OwnT.cap (h : OwnT w lo a n c vs xss) : n ≤ c ∧ c ≤ 9223372036854775807 := by
  rcases h.block with ⟨_, h1, h2⟩ | ⟨g', cur, h1, h2, h3, h4, h5, _⟩
  · omega
  · unfold maxLen at h5; omega
theorem OwnT.keep (h : OwnT w lo a n c vs xss) (hk : ∀ g, (a = some ⟨g, 0, none⟩ ∨ ∃ i, i < n ∧ (vs.getD i svO).1 = some ⟨g, 0, none⟩) → g < w.heap.size → w'.heap[g]? = w.heap[g]?) : OwnT w' lo a n c vs xss := by
  refine ⟨h.len, h.vlen, ?_, fun i hi => (h.row i hi).keep fun g hg hlt => hk g (.inr ⟨i, hi, hg⟩) hlt, h.ap, h.pw⟩
  rcases h.block with ⟨h1, h2, h3⟩ | ⟨g, cur, h1, h2, h3, h4, h5, h6, h7⟩
  · subst h1 h2 h3
    have : vs = [] := List.eq_nil_of_length_eq_zero h.vlen
    subst this; exact World.ownsRow_nil _ _ _ _
  · subst h1
    exact ownsRow_mk h.vlen h2 ((hk g (.inl rfl) h3.lt).trans h3) h4 h5 h6 h7
theorem OwnT.below (h : OwnT w lo a n c vs xss) (hb : Below w.heap.size w w') : OwnT w' lo a n c vs xss := h.keep fun g _ hlt => hb.block g hlt
theorem OwnT.alloc (h : OwnT w lo a n c vs xss) (o : Obj) : OwnT (w.alloc o) lo a n c vs xss := h.below ((Below.refl _ _).alloc (Nat.le_refl _) o)
theorem OwnT.drewN (h : OwnT w lo a n c vs xss) (k : Nat) : OwnT (w.drewN k) lo a n c vs xss := h.keep fun _ _ _ => rfl
theorem OwnT.mono {lo' : Nat} (h : OwnT w lo a n c vs xss) (hl : lo' ≤ lo) : OwnT w lo' a n c vs xss := by
  refine ⟨h.len, h.vlen, ?_, fun i hi => (h.row i hi).mono hl, h.ap, h.pw⟩
  rcases h.block with ⟨h1, h2, h3⟩ | ⟨g, cur, h1, h2, h3, h4, h5, h6, h7⟩
  · subst h1 h2 h3
    have : vs = [] := List.eq_nil_of_length_eq_zero h.vlen
    subst this; exact World.ownsRow_nil _ _ _ _
  · subst h1; exact ownsRow_mk h.vlen (Nat.le_trans hl h2) h3 h4 h5 h6 h7
theorem OwnT.setlo (h : OwnT w lo a n c vs xss) {p : Addr} (hp : p.block < lo) (u : Value) : OwnT (w.setCell p u) lo a n c vs xss := by
  refine h.keep fun g hg _ => Below.heap_setCell _ _ _ _ ?_
  rcases hg with hg | ⟨i, hi, hg⟩
  · have := h.low g hg; omega
  · have := (h.row i hi).lo g hg; omega
theorem OwnT.blo (h : OwnT w lo a n c vs xss) : ∀ g, (a = some ⟨g, 0, none⟩ ∨ ∃ i, i < n ∧ (vs.getD i svO).1 = some ⟨g, 0, none⟩) → lo ≤ g := fun g hg => by
  rcases hg with hg | ⟨i, hi, hg⟩
  · exact h.low g hg
  · exact (h.row i hi).lo g hg
theorem OwnT.bhi (h : OwnT w lo a n c vs xss) : ∀ g, (a = some ⟨g, 0, none⟩ ∨ ∃ i, i < n ∧ (vs.getD i svO).1 = some ⟨g, 0, none⟩) → g < w.heap.size := fun g hg => by
  rcases hg with hg | ⟨i, hi, hg⟩
  · exact h.high g hg
  · exact (h.row i hi).hi g hg
theorem OwnT.cells (h : OwnT w lo a n c vs xss) (hn : 0 < n) : ∃ g, a = some ⟨g, 0, none⟩ ∧ g < w.heap.size ∧ (∀ i, i < n → w.cell? ⟨g, i, none⟩ = some (.slice (vs.getD i svO).1 (vs.getD i svO).2.1 (vs.getD i svO).2.2)) ∧ ∀ i, w.frozen? ⟨g, i, none⟩ = false := by
  rcases h.block with ⟨h1, h2, h3⟩ | ⟨g, cur, h1, h2, h3, h4, h5, h6, h7⟩
  · omega
  · refine ⟨g, h1, h3.lt, fun i hi => h3.cell i ?_, fun i => h3.free i⟩
    have hx : (cur.toList.take n)[i]? = (vs.map sl)[i]? := by rw [h7]
    have hxi : i < vs.length := by have := h.vlen; omega
    rw [List.getElem?_take, if_pos hi] at hx
    simp [List.getElem?_eq_getElem hxi] at hx
    simp [List.getD_eq_getElem?_getD, List.getElem?_eq_getElem hxi, hx, sl]
theorem OwnT.tbl (h : OwnT w lo a n c vs xss) : Tbl w a n xss := by
  refine ⟨h.len, fun i hi => ?_⟩
  obtain ⟨g, h1, h2, h3, h4⟩ := h.cells (by omega)
  exact ⟨g, 0, _, _, _, h1, h2, by simpa using h3 i hi, (h.row i hi).row, by have := (h.row i hi).cap; omega⟩
theorem getD_set' {α : Type} (l : List α) (j i : Nat) (x d : α) (h : i < l.length) : (l.set j x).getD i d = if i = j then x else l.getD i d := by
  simp only [List.getD_eq_getElem?_getD, List.getElem?_set]
  by_cases e : i = j
  · subst e; simp [h]
  · rw [if_neg e, if_neg (fun h => e h.symm)]
theorem OwnT.put {g : Nat} (h : OwnT w lo (some ⟨g, 0, none⟩) n c vs xss) (i : Nat) (hi : i < n) {v : SV} {ys : List Int} (ho : Own w lo v.1 v.2.1 v.2.2 ys) (h1 : v.1 ≠ some ⟨g, 0, none⟩) (h2 : ∀ j, j < n → j ≠ i → Apart v.1 (vs.getD j svO).1) :
    OwnT (w.setCell ⟨g, i, none⟩ (.slice v.1 v.2.1 v.2.2)) lo (some ⟨g, 0, none⟩) n c (vs.set i v) (xss.set i ys) := by
  have hl := h.len
  have hv := h.vlen
  have hg : ∀ j, j < n → ∀ g', (vs.getD j svO).1 = some ⟨g', 0, none⟩ → g' ≠ g := fun j hj g' hg' e => by subst e; exact h.ap j hj g' rfl hg'
  refine ⟨by simp [hl], by simp [hv], ?_, fun j hj => ?_, fun j hj => ?_, fun j k hj hk hjk => ?_⟩
  · rcases h.block with ⟨h1, h2, h3⟩ | ⟨g', cur, e1, e2, e3, e4, e5, e6, e7⟩
    · cases h1
    · cases e1
      refine ownsRow_mk (by simp [hv]) e2 (e3.set i _) e4 e5 (by simpa using e6) ?_
      rw [Array.toList_setIfInBounds, List.take_set, e7, List.map_set]; rfl
  · rw [getD_set' _ _ _ _ _ (by omega), getD_set' _ _ _ _ _ (by omega)]
    by_cases e : j = i
    · rw [if_pos e, if_pos e]; exact ho.setne (fun g' hg' e => h1 (by rw [hg']; subst e; rfl)) _
    · rw [if_neg e, if_neg e]; exact (h.row j hj).setne (fun g' hg' => hg j hj g' hg') _
  · rw [getD_set' _ _ _ _ _ (by omega)]
    by_cases e : j = i
    · rw [if_pos e]; intro g' hg' hv'; cases hg'; exact h1 hv'
    · rw [if_neg e]; exact h.ap j hj
  · rw [getD_set' _ _ _ _ _ (by omega), getD_set' _ _ _ _ _ (by omega)]
    by_cases e : j = i
    · rw [if_pos e, if_neg (by omega)]; exact h2 k hk (by omega)
    · rw [if_neg e]
      by_cases e' : k = i
      · rw [if_pos e']; exact (h2 j hj e).symm
      · rw [if_neg e']; exact h.pw j k hj hk hjk
theorem OwnT.setrow (h : OwnT w lo a n c vs xss) (i : Nat) (hi : i < n) {g : Nat} (hg : (vs.getD i svO).1 = some ⟨g, 0, none⟩) (j : Nat) (x : Int) :
    OwnT (w.setCell ⟨g, j, none⟩ (.int .i64 x)) lo a n c vs (xss.set i ((xss.getD i []).set j x)) := by
  have hl := h.len
  refine ⟨by simp [hl], h.vlen, ?_, fun k hk => ?_, h.ap, h.pw⟩
  · rcases h.block with ⟨h1, h2, h3⟩ | ⟨g', cur, e1, e2, e3, e4, e5, e6, e7⟩
    · omega
    · subst e1
      exact ownsRow_mk h.vlen e2 (e3.setne (fun e => h.ap i hi g' rfl (by rw [hg, e])) _) e4 e5 e6 e7
  · rw [getD_set' _ _ _ _ _ (by omega)]
    by_cases e : k = i
    · subst e
      rw [if_pos rfl]
      have := h.row k hi
      rw [hg] at this ⊢
      exact this.set j x
    · rw [if_neg e]
      exact (h.row k hk).setne (fun g' hg' e' => h.pw k i hk hi e g' hg' (by rw [hg, e'])) _
end
theorem makeT {ops : Array Oper} {rest : List Oper} {o : Oper} {a : Act} {Q : Exit → Act → World → Prop} {w : World} (hgd : o.guard = none) {l c : Operand}
    (ho : o.op = Op.makeSlice 24 l c) {n : Nat} (hl : a.eval l = .int .i64 n) (hc : a.eval c = .int .i64 n) (hn : n ≤ 1000000000000)
    (h : ∀ w', OwnT w' w.heap.size (some ⟨w.heap.size, 0, none⟩) n n (List.replicate n svO) (List.replicate n []) → w.heap.size < w'.heap.size → Below w.heap.size w w' → wpList Tryz.prog ops Q rest (a.put o.dst (.slice (some ⟨w.heap.size, 0, none⟩) n n)) w') :
    wpList Tryz.prog ops Q (o :: rest) a w := by
  obtain ⟨i0, hi, hz0, hz1, hz2⟩ := info_parts info_rows
  refine wpList_make_full w hgd l c 24 ho w.heap.size 27 i0 (.slice none 0 0) 1 und_rows hi hz0 hz1 .i64 .i64 n n n hl hc rfl rfl (by rw [hz2]; omega) (by unfold maxLen; omega) (Nat.le_refl _) ?_
  intro w' ho' hg
  have e : (madeCells (Value.slice none 0 0).cells (n * 1)).toList = (List.replicate n svO).map sl := by
    rw [Nat.mul_one, List.map_replicate]; exact toList_madeCells_one _ _
  rw [e] at ho'
  have hrep : ∀ i, i < n → (List.replicate n svO).getD i svO = svO := fun i hi => by simp [List.getD_eq_getElem?_getD, hi]
  refine h w' ⟨by simp, by simp, ho', fun i hi => ?_, fun i hi => ?_, fun i j hi hj _ => ?_⟩ ?_ ((Below.refl _ _).grown hg (Nat.le_refl _) (by simp))
  · rw [hrep i hi]
    have : (List.replicate n ([] : List Int)).getD i [] = [] := by simp [List.getD_eq_getElem?_getD, hi]
    rw [this]; exact Own.nil _ _
  · rw [hrep i hi]; intro g _ h; cases h
  · rw [hrep i hi]; intro g h; cases h
  · rcases ho'.2 with ⟨h1, _⟩ | ⟨g, cap, cur, h1, h2, h3, _⟩
    · cases h1
    · cases h1; exact lt_of_block h3
end Go.Proofs.YtpdgpgbgakinlaaGreat

namespace Go.Proofs.YtpdgpgbgakinlaaGreat
set_option maxRecDepth 100000
set_option linter.unusedVariables false
set_option linter.unusedSimpArgs false
open Go.RowKit
abbrev bAgg (s : Int) (a : Option Addr) (n c : Nat) : Value := .agg #[.int .i64 s, .slice a n c]
theorem within_any (v lo hi : Int) (w : World) :
    Calls Tryz.prog 71 #[.int .i64 v, .int .i64 lo, .int .i64 hi] w fun e w' => e = .returned (.bool (decide (lo ≤ v) && decide (v ≤ hi))) ∧ w = w' := by
  by_cases h : lo ≤ v
  all_goals
    go_enter Tryz.func71, Tryz.ntmps71
    go_wp2
    go_ret
    exact ⟨by first | (simp [h]; done) | (simp; omega), rfl⟩
theorem l01In_any (v lo hi : Int) (w : World) :
    Calls Tryz.prog 96 #[.int .i64 v, .int .i64 lo, .int .i64 hi] w fun e w' => e = .returned (.bool (decide (lo ≤ v) && decide (v ≤ hi))) ∧ w = w' := by
  by_cases h : lo ≤ v
  all_goals
    go_enter Tryz.func96, Tryz.ntmps96
    go_wp2
    go_ret
    exact ⟨by first | (simp [h]; done) | (simp; omega), rfl⟩
structure Marked (S : Nat → Prop) (w w' : World) : Prop where
  os : w'.os = w.os
  tape : w'.tape = w.tape
  output : w'.output = w.output
  size : w.heap.size ≤ w'.heap.size
  block : ∀ k, k < w.heap.size → ¬ S k → w'.heap[k]? = w.heap[k]?
theorem Marked.below {S : Nat → Prop} {B : Nat} {w0 w w' : World} (h : Below B w0 w) (ht : Marked S w w') (hB : B ≤ w.heap.size) (hS : ∀ k, S k → B ≤ k) : Below B w0 w' :=
  h.trans ⟨ht.os, ht.tape, ht.output, ht.size, fun k hk => ht.block k (by omega) (fun hs => by have := hS k hs; omega)⟩
def RetB (w : World) (s : Int) (xs : List Int) (code : Int) (e : Ending) (w' : World) : Prop :=
  ∃ a n c, e = .returned (.tuple #[bAgg s a n c, .int .i64 code]) ∧ Own w' w.heap.size a n c xs ∧ Below w.heap.size w w'
end Go.Proofs.YtpdgpgbgakinlaaGreat

namespace Go.Proofs.YtpdgpgbgakinlaaGreat
set_option linter.unusedVariables false
open Go.RowKit
def Ent (f : FuncId) : Prop := ∀ (args : Array Value) (w : World), (callFunc f args).run Tryz.prog w = .ok (.enter f args) w
end Go.Proofs.YtpdgpgbgakinlaaGreat
