/-
  A slice of slices of numbers that the call owns: its header's block and its rows' blocks are all different.
  No condition.
-/
import Derived.Test.YtehomfbehhlhmaaTab
import Derived.Test.YtehomfbehhlhmaaHelp
namespace Go.Proofs.Ytehomfbehhlhmaa
set_option maxRecDepth 100000
set_option linter.unusedVariables false
set_option linter.unusedSimpArgs false
open Go.RowKit

theorem info_rows : (Try.prog.info? 22).map (fun i => (i.zero, i.size, i.bytes)) = some (some (.slice none 0 0), 1, 24) := by kernel_rfl
theorem und_rows : Try.prog.underlying 43 = some (.slice 22) := by kernel_rfl

abbrev SV := Option Addr × Nat × Nat
def sl (v : SV) : Value := .slice v.1 v.2.1 v.2.2
abbrev svO : SV := (none, 0, 0)
def Apart (a b : Option Addr) : Prop := ∀ g, a = some ⟨g, 0, none⟩ → b ≠ some ⟨g, 0, none⟩
theorem Apart.symm {a b : Option Addr} (h : Apart a b) : Apart b a := fun g h1 h2 => h g h2 h1

structure OwnT (w : World) (lo : Nat) (a : Option Addr) (n c : Nat) (vs : List SV) (xss : List (List Int)) : Prop where
  len : n = xss.length
  vlen : vs.length = n
  hdr : w.ownsRow lo 22 1 (.slice a n c) n (vs.map sl)
  row : ∀ i, i < n → Own w lo (vs.getD i svO).1 (vs.getD i svO).2.1 (vs.getD i svO).2.2 (xss.getD i [])
  ap : ∀ i, i < n → Apart a (vs.getD i svO).1
  pw : ∀ i j, i < n → j < n → i ≠ j → Apart (vs.getD i svO).1 (vs.getD j svO).1

section
variable {w w' : World} {lo : Nat} {a : Option Addr} {n c : Nat} {vs : List SV} {xss : List (List Int)}

theorem OwnT.nil (w : World) (lo : Nat) : OwnT w lo none 0 0 [] [] :=
  ⟨rfl, rfl, World.ownsRow_nil w lo _ 1, fun i h => absurd h (by omega), fun i h => absurd h (by omega), fun i j h => absurd h (by omega)⟩

/-- the header's block -/
theorem OwnT.block (h : OwnT w lo a n c vs xss) : (a = none ∧ n = 0 ∧ c = 0) ∨ ∃ g cur, a = some ⟨g, 0, none⟩ ∧ lo ≤ g ∧ Loc w g cur 22 ∧ n ≤ c ∧ c ≤ maxLen ∧ cur.size = c ∧ cur.toList.take n = vs.map sl := by
  rcases h.hdr.2 with ⟨h1, h2⟩ | ⟨g, cap, cur, h1, h2, h3, h4, h5, h6, h7⟩
  · cases h1; exact .inl ⟨rfl, rfl, rfl⟩
  · cases h1; exact .inr ⟨g, cur, rfl, h2, h3, h4, h5, by simpa using h6, by simpa using h7⟩
theorem ownsRow_mk {w : World} {lo g n c : Nat} {vs : List SV} {cur : Array Value} (hn : vs.length = n) (h1 : lo ≤ g) (h2 : Loc w g cur 22) (h3 : n ≤ c) (h4 : c ≤ maxLen) (h5 : cur.size = c) (h6 : cur.toList.take n = vs.map sl) :
    w.ownsRow lo 22 1 (.slice (some ⟨g, 0, none⟩) n c) n (vs.map sl) :=
  ⟨by simp [hn], .inr ⟨g, c, cur, rfl, h1, h2, h3, h4, by simpa using h5, by simpa using h6⟩⟩
theorem OwnT.high (h : OwnT w lo a n c vs xss) : ∀ g, a = some ⟨g, 0, none⟩ → g < w.heap.size := by
  intro g hg
  rcases h.block with ⟨h1, _⟩ | ⟨g', cur, h1, h2, h3, _⟩
  · rw [h1] at hg; cases hg
  · rw [h1] at hg; cases hg; exact h3.lt
theorem OwnT.low (h : OwnT w lo a n c vs xss) : ∀ g, a = some ⟨g, 0, none⟩ → lo ≤ g := by
  intro g hg
  rcases h.block with ⟨h1, _⟩ | ⟨g', cur, h1, h2, h3, _⟩
  · rw [h1] at hg; cases hg
  · rw [h1] at hg; cases hg; exact h2
theorem OwnT.cap (h : OwnT w lo a n c vs xss) : n ≤ c ∧ c ≤ 9223372036854775807 := by
  rcases h.block with ⟨_, h1, h2⟩ | ⟨g', cur, h1, h2, h3, h4, h5, _⟩
  · omega
  · unfold maxLen at h5; omega
theorem OwnT.keep (h : OwnT w lo a n c vs xss) (hk : ∀ g, (a = some ⟨g, 0, none⟩ ∨ ∃ i, i < n ∧ (vs.getD i svO).1 = some ⟨g, 0, none⟩) → g < w.heap.size → w'.heap[g]? = w.heap[g]?) : OwnT w' lo a n c vs xss := by
  refine ⟨h.len, h.vlen, ?_, fun i hi => (h.row i hi).keep fun g hg hlt => hk g (.inr ⟨i, hi, hg⟩) hlt, h.ap, h.pw⟩
  rcases h.block with ⟨h1, h2, h3⟩ | ⟨g, cur, h1, h2, h3, h4, h5, h6, h7⟩
  · subst h1 h2 h3
    have : vs = [] := List.eq_nil_of_length_eq_zero h.vlen
    subst this; exact World.ownsRow_nil _ _ _ _
  · subst h1
    exact ownsRow_mk h.vlen h2 ((hk g (.inl rfl) h3.lt).trans h3) h4 h5 h6 h7
theorem OwnT.below (h : OwnT w lo a n c vs xss) (hb : Below w.heap.size w w') : OwnT w' lo a n c vs xss := h.keep fun g _ hlt => hb.block g hlt
theorem OwnT.alloc (h : OwnT w lo a n c vs xss) (o : Obj) : OwnT (w.alloc o) lo a n c vs xss := h.below ((Below.refl _ _).alloc (Nat.le_refl _) o)
theorem OwnT.drewN (h : OwnT w lo a n c vs xss) (k : Nat) : OwnT (w.drewN k) lo a n c vs xss := h.keep fun _ _ _ => rfl
theorem OwnT.mono {lo' : Nat} (h : OwnT w lo a n c vs xss) (hl : lo' ≤ lo) : OwnT w lo' a n c vs xss := by
  refine ⟨h.len, h.vlen, ?_, fun i hi => (h.row i hi).mono hl, h.ap, h.pw⟩
  rcases h.block with ⟨h1, h2, h3⟩ | ⟨g, cur, h1, h2, h3, h4, h5, h6, h7⟩
  · subst h1 h2 h3
    have : vs = [] := List.eq_nil_of_length_eq_zero h.vlen
    subst this; exact World.ownsRow_nil _ _ _ _
  · subst h1; exact ownsRow_mk h.vlen (Nat.le_trans hl h2) h3 h4 h5 h6 h7
theorem OwnT.setlo (h : OwnT w lo a n c vs xss) {p : Addr} (hp : p.block < lo) (u : Value) : OwnT (w.setCell p u) lo a n c vs xss := by
  refine h.keep fun g hg _ => Below.heap_setCell _ _ _ _ ?_
  rcases hg with hg | ⟨i, hi, hg⟩
  · have := h.low g hg; omega
  · have := (h.row i hi).lo g hg; omega
theorem OwnT.blo (h : OwnT w lo a n c vs xss) : ∀ g, (a = some ⟨g, 0, none⟩ ∨ ∃ i, i < n ∧ (vs.getD i svO).1 = some ⟨g, 0, none⟩) → lo ≤ g := fun g hg => by
  rcases hg with hg | ⟨i, hi, hg⟩
  · exact h.low g hg
  · exact (h.row i hi).lo g hg
theorem OwnT.bhi (h : OwnT w lo a n c vs xss) : ∀ g, (a = some ⟨g, 0, none⟩ ∨ ∃ i, i < n ∧ (vs.getD i svO).1 = some ⟨g, 0, none⟩) → g < w.heap.size := fun g hg => by
  rcases hg with hg | ⟨i, hi, hg⟩
  · exact h.high g hg
  · exact (h.row i hi).hi g hg
/-- the header's cells -/
theorem OwnT.cells (h : OwnT w lo a n c vs xss) (hn : 0 < n) : ∃ g, a = some ⟨g, 0, none⟩ ∧ g < w.heap.size ∧ (∀ i, i < n → w.cell? ⟨g, i, none⟩ = some (.slice (vs.getD i svO).1 (vs.getD i svO).2.1 (vs.getD i svO).2.2)) ∧ ∀ i, w.frozen? ⟨g, i, none⟩ = false := by
  rcases h.block with ⟨h1, h2, h3⟩ | ⟨g, cur, h1, h2, h3, h4, h5, h6, h7⟩
  · omega
  · refine ⟨g, h1, h3.lt, fun i hi => h3.cell i ?_, fun i => h3.free i⟩
    have hx : (cur.toList.take n)[i]? = (vs.map sl)[i]? := by rw [h7]
    have hxi : i < vs.length := by have := h.vlen; omega
    rw [List.getElem?_take, if_pos hi] at hx
    simp [List.getElem?_eq_getElem hxi] at hx
    simp [List.getD_eq_getElem?_getD, List.getElem?_eq_getElem hxi, hx, sl]
theorem OwnT.tbl (h : OwnT w lo a n c vs xss) : Tbl w a n xss := by
  refine ⟨h.len, fun i hi => ?_⟩
  obtain ⟨g, h1, h2, h3, h4⟩ := h.cells (by omega)
  exact ⟨g, 0, _, _, _, h1, h2, by simpa using h3 i hi, (h.row i hi).row, by have := (h.row i hi).cap; omega⟩

theorem getD_set' {α : Type} (l : List α) (j i : Nat) (x d : α) (h : i < l.length) : (l.set j x).getD i d = if i = j then x else l.getD i d := by
  simp only [List.getD_eq_getElem?_getD, List.getElem?_set]
  by_cases e : i = j
  · subst e; simp [h]
  · rw [if_neg e, if_neg (fun h => e h.symm)]

/-- a store into the header: a new row at a place -/
theorem OwnT.put {g : Nat} (h : OwnT w lo (some ⟨g, 0, none⟩) n c vs xss) (i : Nat) (hi : i < n) {v : SV} {ys : List Int} (ho : Own w lo v.1 v.2.1 v.2.2 ys) (h1 : v.1 ≠ some ⟨g, 0, none⟩) (h2 : ∀ j, j < n → j ≠ i → Apart v.1 (vs.getD j svO).1) :
    OwnT (w.setCell ⟨g, i, none⟩ (.slice v.1 v.2.1 v.2.2)) lo (some ⟨g, 0, none⟩) n c (vs.set i v) (xss.set i ys) := by
  have hl := h.len
  have hv := h.vlen
  have hg : ∀ j, j < n → ∀ g', (vs.getD j svO).1 = some ⟨g', 0, none⟩ → g' ≠ g := fun j hj g' hg' e => by subst e; exact h.ap j hj g' rfl hg'
  refine ⟨by simp [hl], by simp [hv], ?_, fun j hj => ?_, fun j hj => ?_, fun j k hj hk hjk => ?_⟩
  · rcases h.block with ⟨h1, h2, h3⟩ | ⟨g', cur, e1, e2, e3, e4, e5, e6, e7⟩
    · cases h1
    · cases e1
      refine ownsRow_mk (by simp [hv]) e2 (e3.set i _) e4 e5 (by simpa using e6) ?_
      rw [Array.toList_setIfInBounds, List.take_set, e7, List.map_set]; rfl
  · rw [getD_set' _ _ _ _ _ (by omega), getD_set' _ _ _ _ _ (by omega)]
    by_cases e : j = i
    · rw [if_pos e, if_pos e]; exact ho.setne (fun g' hg' e => h1 (by rw [hg']; subst e; rfl)) _
    · rw [if_neg e, if_neg e]; exact (h.row j hj).setne (fun g' hg' => hg j hj g' hg') _
  · rw [getD_set' _ _ _ _ _ (by omega)]
    by_cases e : j = i
    · rw [if_pos e]; intro g' hg' hv'; cases hg'; exact h1 hv'
    · rw [if_neg e]; exact h.ap j hj
  · rw [getD_set' _ _ _ _ _ (by omega), getD_set' _ _ _ _ _ (by omega)]
    by_cases e : j = i
    · rw [if_pos e, if_neg (by omega)]; exact h2 k hk (by omega)
    · rw [if_neg e]
      by_cases e' : k = i
      · rw [if_pos e']; exact (h2 j hj e).symm
      · rw [if_neg e']; exact h.pw j k hj hk hjk

/-- a store into a row -/
theorem OwnT.setrow (h : OwnT w lo a n c vs xss) (i : Nat) (hi : i < n) {g : Nat} (hg : (vs.getD i svO).1 = some ⟨g, 0, none⟩) (j : Nat) (x : Int) :
    OwnT (w.setCell ⟨g, j, none⟩ (.int .i64 x)) lo a n c vs (xss.set i ((xss.getD i []).set j x)) := by
  have hl := h.len
  refine ⟨by simp [hl], h.vlen, ?_, fun k hk => ?_, h.ap, h.pw⟩
  · rcases h.block with ⟨h1, h2, h3⟩ | ⟨g', cur, e1, e2, e3, e4, e5, e6, e7⟩
    · omega
    · subst e1
      exact ownsRow_mk h.vlen e2 (e3.setne (fun e => h.ap i hi g' rfl (by rw [hg, e])) _) e4 e5 e6 e7
  · rw [getD_set' _ _ _ _ _ (by omega)]
    by_cases e : k = i
    · subst e
      rw [if_pos rfl]
      have := h.row k hi
      rw [hg] at this ⊢
      exact this.set j x
    · rw [if_neg e]
      exact (h.row k hk).setne (fun g' hg' e' => h.pw k i hk hi e g' hg' (by rw [hg, e'])) _

end

/-- make of n rows, all nil -/
theorem makeT {ops : Array Oper} {rest : List Oper} {o : Oper} {a : Act} {Q : Exit → Act → World → Prop} {w : World} (hgd : o.guard = none) {l c : Operand}
    (ho : o.op = Op.makeSlice 43 l c) {n : Nat} (hl : a.eval l = .int .i64 n) (hc : a.eval c = .int .i64 n) (hn : n ≤ 1000000000000)
    (h : ∀ w', OwnT w' w.heap.size (some ⟨w.heap.size, 0, none⟩) n n (List.replicate n svO) (List.replicate n []) → w.heap.size < w'.heap.size → Below w.heap.size w w' → wpList Try.prog ops Q rest (a.put o.dst (.slice (some ⟨w.heap.size, 0, none⟩) n n)) w') :
    wpList Try.prog ops Q (o :: rest) a w := by
  obtain ⟨i0, hi, hz0, hz1, hz2⟩ := info_parts info_rows
  refine wpList_make_full w hgd l c 43 ho w.heap.size 22 i0 (.slice none 0 0) 1 und_rows hi hz0 hz1 .i64 .i64 n n n hl hc rfl rfl (by rw [hz2]; omega) (by unfold maxLen; omega) (Nat.le_refl _) ?_
  intro w' ho' hg
  have e : (madeCells (Value.slice none 0 0).cells (n * 1)).toList = (List.replicate n svO).map sl := by
    rw [Nat.mul_one, List.map_replicate]; exact toList_madeCells_one _ _
  rw [e] at ho'
  have hrep : ∀ i, i < n → (List.replicate n svO).getD i svO = svO := fun i hi => by simp [List.getD_eq_getElem?_getD, hi]
  refine h w' ⟨by simp, by simp, ho', fun i hi => ?_, fun i hi => ?_, fun i j hi hj _ => ?_⟩ ?_ ((Below.refl _ _).grown hg (Nat.le_refl _) (by simp))
  · rw [hrep i hi]
    have : (List.replicate n ([] : List Int)).getD i [] = [] := by simp [List.getD_eq_getElem?_getD, hi]
    rw [this]; exact Own.nil _ _
  · rw [hrep i hi]; intro g _ h; cases h
  · rw [hrep i hi]; intro g h; cases h
  · rcases ho'.2 with ⟨h1, _⟩ | ⟨g, cap, cur, h1, h2, h3, _⟩
    · cases h1
    · cases h1; exact lt_of_block h3

end Go.Proofs.Ytehomfbehhlhmaa
