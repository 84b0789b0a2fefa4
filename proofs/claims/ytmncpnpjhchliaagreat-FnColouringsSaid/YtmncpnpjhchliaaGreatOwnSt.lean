/-
  Slices of strings: what is read, what the call owns, append, make.
  No condition but bounds on lengths.
-/
import Derived.Test.YtmncpnpjhchliaaGreatBase
namespace Go.Proofs.YtmncpnpjhchliaaGreat
set_option maxRecDepth 100000
set_option linter.unusedVariables false
set_option linter.unusedSimpArgs false
open Go.RowKit

theorem info_St : (Tryz.prog.info? 9).map (fun i => (i.zero, i.size, i.bytes)) = some (some (Value.string ByteArray.empty), 1, 16) := by kernel_rfl
theorem und_St : Tryz.prog.underlying 103 = some (.slice 9) := by kernel_rfl

/-! ### A slice of numbers that is read -/
/-- the slice (a, n, c) reads in w as the numbers xs -/
def RowSt (w : World) (a : Option Addr) (n : Nat) (xs : List ByteArray) : Prop :=
  n = xs.length ∧ ∀ i, i < n → ∃ b off, a = some ⟨b, off, none⟩ ∧ b < w.heap.size ∧ w.cell? ⟨b, off + i, none⟩ = some (Value.string (xs.getD i ByteArray.empty))

theorem RowSt.nil (w : World) (a : Option Addr) : RowSt w a 0 [] := ⟨rfl, fun i h => absurd h (by omega)⟩
theorem RowSt.len {w : World} {a : Option Addr} {n : Nat} {xs : List ByteArray} (h : RowSt w a n xs) : n = xs.length := h.1
theorem RowSt.at {w : World} {a : Option Addr} {n : Nat} {xs : List ByteArray} (h : RowSt w a n xs) (i : Nat) (hi : i < n) : ∃ b off, a = some ⟨b, off, none⟩ ∧ w.cell? ⟨b, off + i, none⟩ = some (Value.string (xs.getD i ByteArray.empty)) := by
  obtain ⟨b, off, h1, _, h2⟩ := h.2 i hi; exact ⟨b, off, h1, h2⟩
/-- a slice with an element: all its cells -/
theorem RowSt.all {w : World} {a : Option Addr} {n : Nat} {xs : List ByteArray} (h : RowSt w a n xs) (hn : 0 < n) : ∃ b off, a = some ⟨b, off, none⟩ ∧ b < w.heap.size ∧ ∀ i, i < n → w.cell? ⟨b, off + i, none⟩ = some (Value.string (xs.getD i ByteArray.empty)) := by
  obtain ⟨b, off, h1, h3, h2⟩ := h.2 0 hn
  refine ⟨b, off, h1, h3, fun i hi => ?_⟩
  obtain ⟨b', off', h4, _, h5⟩ := h.2 i hi
  rw [h1] at h4; cases h4; exact h5
theorem RowSt.below {w w' : World} {a : Option Addr} {n : Nat} {xs : List ByteArray} (h : RowSt w a n xs) (hb : Below w.heap.size w w') : RowSt w' a n xs :=
  ⟨h.1, fun i hi => by obtain ⟨b, off, h1, h3, h2⟩ := h.2 i hi; exact ⟨b, off, h1, Nat.lt_of_lt_of_le h3 hb.size, (hb.cell (p := ⟨b, off + i, none⟩) h3).trans h2⟩⟩
theorem RowSt.drewN {w : World} {a : Option Addr} {n : Nat} {xs : List ByteArray} (h : RowSt w a n xs) (k : Nat) : RowSt (w.drewN k) a n xs := h
theorem RowSt.alloc {w : World} {a : Option Addr} {n : Nat} {xs : List ByteArray} (h : RowSt w a n xs) (o : Obj) : RowSt (w.alloc o) a n xs := h.below ((Below.refl _ _).alloc (Nat.le_refl _) o)

/-! ### A slice of numbers that the call owns (its block lies from 'lo' on) -/
def OwnSt (w : World) (lo : Nat) (a : Option Addr) (n c : Nat) (xs : List ByteArray) : Prop := n = xs.length ∧ w.ownsRow lo 9 1 (.slice a n c) n (xs.map (Value.string))

theorem OwnSt.nil (w : World) (lo : Nat) : OwnSt w lo none 0 0 [] := ⟨rfl, World.ownsRow_nil w lo _ 1⟩
theorem OwnSt.len {w : World} {lo : Nat} {a : Option Addr} {n c : Nat} {xs : List ByteArray} (h : OwnSt w lo a n c xs) : n = xs.length := h.1
theorem OwnSt.alloc {w : World} {lo : Nat} {a : Option Addr} {n c : Nat} {xs : List ByteArray} (h : OwnSt w lo a n c xs) (o : Obj) : OwnSt (w.alloc o) lo a n c xs := ⟨h.1, h.2.alloc o⟩
theorem OwnSt.drew {w : World} {lo : Nat} {a : Option Addr} {n c : Nat} {xs : List ByteArray} (h : OwnSt w lo a n c xs) : OwnSt w.drew lo a n c xs := h
theorem OwnSt.drewN {w : World} {lo : Nat} {a : Option Addr} {n c : Nat} {xs : List ByteArray} (h : OwnSt w lo a n c xs) (k : Nat) : OwnSt (w.drewN k) lo a n c xs := h
/-- the block of a slice that is owned -/
theorem OwnSt.block {w : World} {lo : Nat} {a : Option Addr} {n c : Nat} {xs : List ByteArray} (h : OwnSt w lo a n c xs) : (a = none ∧ n = 0 ∧ c = 0) ∨ ∃ g cur, a = some ⟨g, 0, none⟩ ∧ lo ≤ g ∧ Loc w g cur 9 ∧ n ≤ c ∧ c ≤ maxLen ∧ cur.size = c ∧ cur.toList.take n = xs.map (Value.string) := by
  rcases h.2.2 with ⟨h1, h2⟩ | ⟨g, cap, cur, h1, h2, h3, h4, h5, h6, h7⟩
  · cases h1; exact .inl ⟨rfl, rfl, rfl⟩
  · cases h1; exact .inr ⟨g, cur, rfl, h2, h3, h4, h5, by simpa using h6, by simpa using h7⟩
theorem OwnSt.mk {w : World} {lo : Nat} {g n c : Nat} {xs : List ByteArray} {cur : Array Value} (hn : n = xs.length) (h1 : lo ≤ g) (h2 : Loc w g cur 9) (h3 : n ≤ c) (h4 : c ≤ maxLen) (h5 : cur.size = c) (h6 : cur.toList.take n = xs.map (Value.string)) : OwnSt w lo (some ⟨g, 0, none⟩) n c xs :=
  ⟨hn, by simp [hn], .inr ⟨g, c, cur, rfl, h1, h2, h3, h4, by simpa using h5, by simpa using h6⟩⟩
theorem OwnSt.lt {w : World} {lo : Nat} {g o n c : Nat} {xs : List ByteArray} (h : OwnSt w lo (some ⟨g, o, none⟩) n c xs) : lo ≤ g ∧ g < w.heap.size := by
  rcases h.block with ⟨h1, _⟩ | ⟨g', cur, h1, h2, h3, _⟩
  · cases h1
  · cases h1; exact ⟨h2, h3.lt⟩
theorem OwnSt.mono {w : World} {lo lo' : Nat} {a : Option Addr} {n c : Nat} {xs : List ByteArray} (h : OwnSt w lo a n c xs) (hl : lo' ≤ lo) : OwnSt w lo' a n c xs := by
  rcases h.block with ⟨rfl, rfl, rfl⟩ | ⟨g, cur, rfl, h2, h3, h4, h5, h6, h7⟩
  · have : xs = [] := List.eq_nil_of_length_eq_zero h.1.symm
    subst this; exact OwnSt.nil _ _
  · exact OwnSt.mk h.1 (by omega) h3 h4 h5 h6 h7
theorem OwnSt.keep {w w' : World} {lo : Nat} {a : Option Addr} {n c : Nat} {xs : List ByteArray} (h : OwnSt w lo a n c xs) (hk : ∀ g, a = some ⟨g, 0, none⟩ → g < w.heap.size → w'.heap[g]? = w.heap[g]?) : OwnSt w' lo a n c xs := by
  rcases h.block with ⟨rfl, rfl, rfl⟩ | ⟨g, cur, rfl, h2, h3, h4, h5, h6, h7⟩
  · have : xs = [] := List.eq_nil_of_length_eq_zero h.1.symm
    subst this; exact OwnSt.nil _ _
  · exact OwnSt.mk h.1 h2 ((hk g rfl h3.lt).trans h3) h4 h5 h6 h7
theorem OwnSt.below {w w' : World} {lo : Nat} {a : Option Addr} {n c : Nat} {xs : List ByteArray} (h : OwnSt w lo a n c xs) (hb : Below w.heap.size w w') : OwnSt w' lo a n c xs := h.keep fun g _ hlt => hb.block g hlt
theorem OwnSt.setne {w : World} {lo : Nat} {a : Option Addr} {n c : Nat} {xs : List ByteArray} (h : OwnSt w lo a n c xs) {p : Addr} (hp : ∀ g, a = some ⟨g, 0, none⟩ → g ≠ p.block) (u : Value) : OwnSt (w.setCell p u) lo a n c xs := h.keep fun g hg _ => Below.heap_setCell _ _ _ _ (hp g hg)
theorem OwnSt.setlo {w : World} {lo : Nat} {a : Option Addr} {n c : Nat} {xs : List ByteArray} (h : OwnSt w lo a n c xs) {p : Addr} (hp : p.block < lo) (u : Value) : OwnSt (w.setCell p u) lo a n c xs := by
  refine h.setne (fun g hg => ?_) u
  subst hg; have := h.lt; omega
theorem OwnSt.grown {w w' : World} {lo : Nat} {a : Option Addr} {n c : Nat} {xs : List ByteArray} {row : Option Nat} (h : OwnSt w lo a n c xs) (hg : w.grownBy w' row) (hne : ∀ g, a = some ⟨g, 0, none⟩ → some g ≠ row) : OwnSt w' lo a n c xs := h.keep fun g hg' hlt => hg.block g hlt (hne g hg')
theorem OwnSt.cap {w : World} {lo : Nat} {a : Option Addr} {n c : Nat} {xs : List ByteArray} (h : OwnSt w lo a n c xs) : n ≤ c ∧ c ≤ 9223372036854775807 := by
  rcases h.block with ⟨rfl, rfl, rfl⟩ | ⟨g, cur, rfl, h2, h3, h4, h5, h6, h7⟩
  · omega
  · unfold maxLen at h5; omega
theorem OwnSt.cells {w : World} {lo : Nat} {g o n c : Nat} {xs : List ByteArray} (h : OwnSt w lo (some ⟨g, o, none⟩) n c xs) : o = 0 ∧ (∀ i, i < n → w.cell? ⟨g, i, none⟩ = some (Value.string (xs.getD i ByteArray.empty))) ∧ (∀ i, w.frozen? ⟨g, i, none⟩ = false) := by
  rcases h.block with ⟨h1, _⟩ | ⟨g', cur, h1, h2, h3, h4, h5, h6, h7⟩
  · cases h1
  · cases h1
    refine ⟨rfl, fun i hi => h3.cell i ?_, fun i => h3.free i⟩
    have hx : (cur.toList.take n)[i]? = (xs.map (Value.string))[i]? := by rw [h7]
    have hxi : i < xs.length := by have := h.1; omega
    rw [List.getElem?_take, if_pos hi] at hx
    simp [List.getElem?_eq_getElem hxi] at hx
    simp [List.getD_eq_getElem?_getD, List.getElem?_eq_getElem hxi, hx]
theorem OwnSt.row {w : World} {lo : Nat} {a : Option Addr} {n c : Nat} {xs : List ByteArray} (h : OwnSt w lo a n c xs) : RowSt w a n xs := by
  refine ⟨h.1, fun i hi => ?_⟩
  rcases h.block with ⟨rfl, rfl, rfl⟩ | ⟨g, cur, rfl, h2, h3, _⟩
  · omega
  · exact ⟨g, 0, rfl, h3.lt, by simpa using h.cells.2.1 i hi⟩
/-- a store into a slice that is owned -/
theorem OwnSt.set {w : World} {lo : Nat} {g n c : Nat} {xs : List ByteArray} (h : OwnSt w lo (some ⟨g, 0, none⟩) n c xs) (i : Nat) (x : ByteArray) : OwnSt (w.setCell ⟨g, i, none⟩ (Value.string x)) lo (some ⟨g, 0, none⟩) n c (xs.set i x) := by
  rcases h.block with ⟨h1, _⟩ | ⟨g', cur, h1, h2, h3, h4, h5, h6, h7⟩
  · cases h1
  · cases h1
    refine OwnSt.mk (by simp [h.1]) h2 (h3.set i _) h4 h5 (by simpa using h6) ?_
    rw [Array.toList_setIfInBounds, List.take_set, h7, List.map_set]

theorem OwnSt.hi {w : World} {lo : Nat} {a : Option Addr} {n c : Nat} {xs : List ByteArray} (h : OwnSt w lo a n c xs) : ∀ g, a = some ⟨g, 0, none⟩ → g < w.heap.size := fun g hg => by subst hg; exact h.lt.2
theorem OwnSt.lo {w : World} {lo : Nat} {a : Option Addr} {n c : Nat} {xs : List ByteArray} (h : OwnSt w lo a n c xs) : ∀ g, a = some ⟨g, 0, none⟩ → lo ≤ g := fun g hg => by subst hg; exact h.lt.1

/-- append of one number -/
theorem app1St {ops : Array Oper} {rest : List Oper} {o : Oper} {a : Act} {Q : Exit → Act → World → Prop} {w : World} (hgd : o.guard = none) {s x : Operand}
    (ho : o.op = .call { callee := .builtin .append, args := #[s, x], argTypes := #[103, 103] }) {lo : Nat} {ad : Option Addr} {n c : Nat} {xs : List ByteArray} (hown : OwnSt w lo ad n c xs) (hs : a.eval s = .slice ad n c)
    {y : ByteArray} {t : TypeId} (hx : a.eval x = .slice (some ⟨w.heap.size, 0, none⟩) 1 1) (hlen : n + 1 ≤ 1000000000000) (hlo : lo ≤ w.heap.size)
    (h : ∀ g c' w', OwnSt w' lo (some ⟨g, 0, none⟩) (n + 1) c' (xs ++ [y]) → w.grownBy w' (Value.slice ad n c).ownBlock → w.heap.size < w'.heap.size → Below lo w w' → wpList Tryz.prog ops Q rest (a.put o.dst (.slice (some ⟨g, 0, none⟩) (n + 1) c')) w') :
    wpList Tryz.prog ops Q (o :: rest) a (w.alloc (.cells #[Value.string y] t)) := by
  obtain ⟨i0, hi, hz0, hz1, hz2⟩ := info_parts info_St
  obtain ⟨hn, hown⟩ := hown
  refine wpList_append_own _ hgd s x 103 ho lo 9 i0 (Value.string ByteArray.empty) 1 16 und_St hi hz0 hz1 hz2 rfl (by decide) _ n (xs.map (Value.string)) hs (hown.alloc _) ⟨w.heap.size, 0, none⟩ 1 1 [Value.string y] hx rfl (cell_one_new _ _ _) ?_ ?_ ?_ ?_ ?_
  · intro u hu; simp at hu; subst hu; rfl
  · unfold maxLen; omega
  · omega
  · simp; omega
  · intro v' w' ho' hg hv'
    have hg' : w.grownBy w' (Value.slice ad n c).ownBlock := by
      have h1 := World.grownBy_alloc w (.cells #[Value.string y] t) (Value.slice ad n c).ownBlock
      exact ⟨hg.os.trans h1.os, hg.tape.trans h1.tape, hg.output.trans h1.output, Nat.le_trans h1.size hg.size, fun k hk hn => (hg.block k (by have := h1.size; omega) hn).trans (h1.block k hk hn)⟩
    obtain ⟨hl, h2⟩ := ho'
    rcases h2 with ⟨rfl, h2⟩ | ⟨g, cap, cur, rfl, h2⟩
    · simp at h2
    · refine h g cap w' ⟨by simp [hn], by simpa using hl, .inr ⟨g, cap, cur, rfl, ?_⟩⟩ hg' ?_ ?_
      · simpa using h2
      · have := hg.size; simp at this; omega
      · exact (Below.refl _ _).grown hg' hlo (fun k hk => (World.ownsRow.lt hown k hk).1)

/-- make of n numbers -/
theorem make1St {ops : Array Oper} {rest : List Oper} {o : Oper} {a : Act} {Q : Exit → Act → World → Prop} {w : World} (hgd : o.guard = none) {l c : Operand}
    (ho : o.op = Op.makeSlice 103 l c) {n : Nat} (hl : a.eval l = .int .i64 n) (hc : a.eval c = .int .i64 n) (hn : n ≤ 1000000000000)
    (h : ∀ w', OwnSt w' w.heap.size (some ⟨w.heap.size, 0, none⟩) n n (List.replicate n ByteArray.empty) → w.heap.size < w'.heap.size → Below w.heap.size w w' → wpList Tryz.prog ops Q rest (a.put o.dst (.slice (some ⟨w.heap.size, 0, none⟩) n n)) w') :
    wpList Tryz.prog ops Q (o :: rest) a w := by
  obtain ⟨i0, hi, hz0, hz1, hz2⟩ := info_parts info_St
  refine wpList_make_full w hgd l c 103 ho w.heap.size 9 i0 (Value.string ByteArray.empty) 1 und_St hi hz0 hz1 .i64 .i64 n n n hl hc rfl rfl (by rw [hz2]; omega) (by unfold maxLen; omega) (Nat.le_refl _) ?_
  intro w' ho' hg
  refine h w' ⟨by simp, ?_⟩ ?_ ((Below.refl _ _).grown hg (Nat.le_refl _) (by simp))
  · have e : (madeCells (Value.string ByteArray.empty).cells (n * 1)).toList = (List.replicate n (ByteArray.empty : ByteArray)).map (Value.string) := by
      rw [Nat.mul_one, List.map_replicate]; exact toList_madeCells_one _ _
    rw [e] at ho'; exact ho'
  · rcases ho'.2 with ⟨h1, _⟩ | ⟨g, cap, cur, h1, h2, h3, _⟩
    · cases h1
    · cases h1; exact lt_of_block h3

/-- append of one number, as a step of a region that draws its order -/
theorem step_app1St {ops : Array Oper} {o : Oper} {a : Act} {K : Act → World → Prop} {Q : Exit → Act → World → Prop} {E : Prop} {w : World} (hgd : o.guard = none) {s x : Operand}
    (ho : o.op = .call { callee := .builtin .append, args := #[s, x], argTypes := #[103, 103] }) {lo : Nat} {ad : Option Addr} {n c : Nat} {xs : List ByteArray} (hown : OwnSt w lo ad n c xs) (hs : a.eval s = .slice ad n c)
    {y : ByteArray} {t : TypeId} (hx : a.eval x = .slice (some ⟨w.heap.size, 0, none⟩) 1 1) (hlen : n + 1 ≤ 1000000000000) (hlo : lo ≤ w.heap.size)
    (h : ∀ g c' w', OwnSt w' lo (some ⟨g, 0, none⟩) (n + 1) c' (xs ++ [y]) → w.grownBy w' (Value.slice ad n c).ownBlock → w.heap.size < w'.heap.size → Below lo w w' → K (a.put o.dst (.slice (some ⟨g, 0, none⟩) (n + 1) c')) w') :
    if Region.wanted o (yielded ops a.tmps) = true then Oper.wp Tryz.prog o a (w.alloc (.cells #[Value.string y] t)).drew K Q else E := by
  have hw : Region.wanted o (yielded ops a.tmps) = true := by simp [Region.wanted, hgd]
  rw [if_pos hw]
  obtain ⟨i0, hi, hz0, hz1, hz2⟩ := info_parts info_St
  obtain ⟨hn, hown⟩ := hown
  refine wp_append_own _ s x 103 ho lo 9 i0 (Value.string ByteArray.empty) 1 16 und_St hi hz0 hz1 hz2 rfl (by decide) _ n (xs.map (Value.string)) hs ((hown.alloc _).drew) ⟨w.heap.size, 0, none⟩ 1 1 [Value.string y] hx rfl (cell_one_new _ _ _) ?_ ?_ ?_ ?_ ?_
  · intro u hu; simp at hu; subst hu; rfl
  · unfold maxLen; omega
  · omega
  · simp; omega
  · intro v' w' ho' hg hv'
    have hg' : w.grownBy w' (Value.slice ad n c).ownBlock := by
      have h1 := World.grownBy_alloc w (.cells #[Value.string y] t) (Value.slice ad n c).ownBlock
      exact ⟨hg.os.trans h1.os, hg.tape.trans h1.tape, hg.output.trans h1.output, Nat.le_trans h1.size hg.size, fun k hk hn => (hg.block k (Nat.lt_of_lt_of_le hk h1.size) hn).trans (h1.block k hk hn)⟩
    obtain ⟨hl, h2⟩ := ho'
    rcases h2 with ⟨rfl, h2⟩ | ⟨g, cap, cur, rfl, h2⟩
    · simp at h2
    · refine h g cap w' ⟨by simp [hn], by simpa using hl, .inr ⟨g, cap, cur, rfl, ?_⟩⟩ hg' ?_ ?_
      · simpa using h2
      · have := hg.size; simp at this; omega
      · exact (Below.refl _ _).grown hg' hlo (fun k hk => (World.ownsRow.lt hown k hk).1)

/-- a new slice of one number -/
theorem OwnSt.single (w : World) {b : Nat} (hb : b = w.heap.size) (y : ByteArray) : OwnSt (w.alloc (.cells #[Value.string y] 9)) w.heap.size (some ⟨b, 0, none⟩) 1 1 [y] :=
  OwnSt.mk rfl (by omega) (Loc.new _ hb _ _) (Nat.le_refl _) (by unfold maxLen; omega) rfl rfl

theorem OwnSt.fresh (w : World) {b : Nat} (hb : b = w.heap.size) : OwnSt (w.alloc (.cells #[] 9)) w.heap.size (some ⟨b, 0, none⟩) 0 0 [] :=
  OwnSt.mk rfl (by omega) (Loc.new _ hb _ _) (Nat.le_refl _) (by unfold maxLen; omega) rfl rfl

/-- append of one number, as a step of a region that draws its order, behind a call -/
theorem step_app1nSt {ops : Array Oper} {o : Oper} {a : Act} {K : Act → World → Prop} {Q : Exit → Act → World → Prop} {E : Prop} {w : World} (hgd : o.guard = none) {s x : Operand}
    (ho : o.op = .call { callee := .builtin .append, args := #[s, x], argTypes := #[103, 103] }) {lo : Nat} {ad : Option Addr} {n c : Nat} {xs : List ByteArray} (hown : OwnSt w lo ad n c xs) (hs : a.eval s = .slice ad n c)
    {y : ByteArray} {t : TypeId} (hx : a.eval x = .slice (some ⟨w.heap.size, 0, none⟩) 1 1) (hlen : n + 1 ≤ 1000000000000) (hlo : lo ≤ w.heap.size)
    (h : ∀ g c' w', OwnSt w' lo (some ⟨g, 0, none⟩) (n + 1) c' (xs ++ [y]) → w.grownBy w' (Value.slice ad n c).ownBlock → w.heap.size < w'.heap.size → Below lo w w' → K (a.put o.dst (.slice (some ⟨g, 0, none⟩) (n + 1) c')) w') :
    if Region.wanted o (yielded ops a.tmps) = true then Oper.wp Tryz.prog o a (w.alloc (.cells #[Value.string y] t)) K Q else E := by
  have hw : Region.wanted o (yielded ops a.tmps) = true := by simp [Region.wanted, hgd]
  rw [if_pos hw]
  obtain ⟨i0, hi, hz0, hz1, hz2⟩ := info_parts info_St
  obtain ⟨hn, hown⟩ := hown
  refine wp_append_own _ s x 103 ho lo 9 i0 (Value.string ByteArray.empty) 1 16 und_St hi hz0 hz1 hz2 rfl (by decide) _ n (xs.map (Value.string)) hs (hown.alloc _) ⟨w.heap.size, 0, none⟩ 1 1 [Value.string y] hx rfl (cell_one_new _ _ _) ?_ ?_ ?_ ?_ ?_
  · intro u hu; simp at hu; subst hu; rfl
  · unfold maxLen; omega
  · omega
  · simp; omega
  · intro v' w' ho' hg hv'
    have hg' : w.grownBy w' (Value.slice ad n c).ownBlock := by
      have h1 := World.grownBy_alloc w (.cells #[Value.string y] t) (Value.slice ad n c).ownBlock
      exact ⟨hg.os.trans h1.os, hg.tape.trans h1.tape, hg.output.trans h1.output, Nat.le_trans h1.size hg.size, fun k hk hn => (hg.block k (Nat.lt_of_lt_of_le hk h1.size) hn).trans (h1.block k hk hn)⟩
    obtain ⟨hl, h2⟩ := ho'
    rcases h2 with ⟨rfl, h2⟩ | ⟨g, cap, cur, rfl, h2⟩
    · simp at h2
    · refine h g cap w' ⟨by simp [hn], by simpa using hl, .inr ⟨g, cap, cur, rfl, ?_⟩⟩ hg' ?_ ?_
      · simpa using h2
      · have := hg.size; simp at this; omega
      · exact (Below.refl _ _).grown hg' hlo (fun k hk => (World.ownsRow.lt hown k hk).1)

end Go.Proofs.YtmncpnpjhchliaaGreat
