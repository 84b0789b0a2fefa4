/-
  A list of permutations in memory: a header that the call owns, and rows that nothing writes.
  No condition.
-/
import Derived.Test.YtdkpalllfekiiaaGreatGarN
import Derived.Test.YtdkpalllfekiiaaGreatBase
namespace Go.Proofs.YtdkpalllfekiiaaGreat
set_option maxRecDepth 100000
set_option linter.unusedVariables false
set_option linter.unusedSimpArgs false
open Go.RowKit

/-- one row -/
structure FRow (n : Nat) (w : World) (v : SV) (p : Pm) : Prop where
  own : Own w 0 v.1 n v.2.2 (toL n p)
  len : v.2.1 = n
  fx : Fx n p
structure Fac (n : Nat) (w : World) (lo : Nat) (a : Option Addr) (m c : Nat) (vs : List SV) (Y : List Pm) : Prop where
  hd : Hd w lo a m c vs
  len : m = Y.length
  row : ∀ i, i < m → FRow n w (vs.getD i svO) (Y.getD i Pm.one)
  ap : ∀ i, i < m → ∀ g, a = some ⟨g, 0, none⟩ → (vs.getD i svO).1 ≠ some ⟨g, 0, none⟩
section
variable {n : Nat} {w w' : World} {lo : Nat} {a : Option Addr} {m c : Nat} {vs : List SV} {Y : List Pm} {v : SV} {p : Pm}
theorem FRow.below (h : FRow n w v p) (hb : Below w.heap.size w w') : FRow n w' v p := ⟨h.own.below hb, h.len, h.fx⟩
theorem FRow.row (h : FRow n w v p) : Row w v.1 n (toL n p) := h.own.row
theorem Fac.nil (n : Nat) (w : World) (lo : Nat) : Fac n w lo none 0 0 [] [] := ⟨Hd.nil _ _, rfl, fun i h => absurd h (by omega), fun i h => absurd h (by omega)⟩
theorem Fac.fresh (n : Nat) (w : World) {b : Nat} (hb : b = w.heap.size) : Fac n (w.alloc (.cells #[] 24)) w.heap.size (some ⟨b, 0, none⟩) 0 0 [] [] :=
  ⟨Hd.fresh w hb, rfl, fun i h => absurd h (by omega), fun i h => absurd h (by omega)⟩
theorem Fac.below (h : Fac n w lo a m c vs Y) (hb : Below w.heap.size w w') : Fac n w' lo a m c vs Y := ⟨h.hd.below hb, h.len, fun i hi => (h.row i hi).below hb, h.ap⟩
theorem Fac.alloc (h : Fac n w lo a m c vs Y) (o : Obj) : Fac n (w.alloc o) lo a m c vs Y := h.below ((Below.refl _ _).alloc (Nat.le_refl _) o)
theorem Fac.drewN (h : Fac n w lo a m c vs Y) (k : Nat) : Fac n (w.drewN k) lo a m c vs Y := h.below (below_drewN (Below.refl _ _) k)
theorem Fac.mono {lo' : Nat} (h : Fac n w lo a m c vs Y) (hl : lo' ≤ lo) : Fac n w lo' a m c vs Y := ⟨h.hd.mono hl, h.len, h.row, h.ap⟩
theorem Fac.fx (h : Fac n w lo a m c vs Y) : AFx n Y := fun p hp => by
  obtain ⟨i, hi, rfl⟩ := List.getElem_of_mem hp
  have := (h.row i (by have := h.len; omega)).fx
  rw [List.getD_eq_getElem?_getD (l := Y), List.getElem?_eq_getElem hi] at this
  exact this
theorem Fac.cell (h : Fac n w lo a m c vs Y) {i : Nat} (hi : i < m) : ∃ g, a = some ⟨g, 0, none⟩ ∧ g < w.heap.size ∧ w.cell? ⟨g, i, none⟩ = some (sl (vs.getD i svO)) ∧ w.frozen? ⟨g, i, none⟩ = false := by
  rcases h.hd.block with ⟨h1, h2, h3⟩ | ⟨g, cur, h1, h2, h3, h4, h5, h6, h7⟩
  · omega
  · obtain ⟨b, off, e1, e2, e3⟩ := h.hd.read.2 i hi
    rw [h1] at e1; cases e1
    rw [Nat.zero_add] at e3
    exact ⟨g, h1, h3.lt, e3, h3.free i⟩
theorem Fac.tbl (h : Fac n w lo a m c vs Y) (hn : n ≤ 1000) : Tbl w a m (Y.map (toL n)) := by
  refine h.hd.read.tbl (by rw [List.length_map]; exact h.len) fun i hi => ?_
  have hr := h.row i hi
  have hi' : i < Y.length := by have := h.len; omega
  have e : (Y.map (toL n)).getD i [] = toL n (Y.getD i Pm.one) := by
    simp [List.getD_eq_getElem?_getD, List.getElem?_eq_getElem hi']
  rw [e, hr.len]
  exact ⟨hr.row, by omega⟩
/-- one more row -/
theorem Fac.snoc {g cap : Nat} (h : Fac n w lo a m c vs Y) (hv : FRow n w v p) (hne : ∀ q, a = some ⟨q, 0, none⟩ → v.1 ≠ some ⟨q, 0, none⟩)
    (ho : Hd w' lo (some ⟨g, 0, none⟩) (m + 1) cap (vs ++ [v])) (hg : w.grownBy w' (Value.slice a m c).ownBlock) (hat : (Value.slice a m c).ownBlock = some g ∨ w.heap.size ≤ g) : Fac n w' lo (some ⟨g, 0, none⟩) (m + 1) cap (vs ++ [v]) (Y ++ [p]) := by
  have hob : ∀ q, (Value.slice a m c).ownBlock = some q → a = some ⟨q, 0, none⟩ := fun q hq => by
    rcases h.hd.block with ⟨h1, h2, h3⟩ | ⟨g', cur, h1, _⟩
    · rw [h1] at hq; cases hq
    · rw [h1] at hq; simp [Value.ownBlock] at hq; subst hq; exact h1
  have hl := h.len
  have hvl := h.hd.1
  have gl : ∀ i, i < m → (vs ++ [v]).getD i svO = vs.getD i svO := fun i hi => by simp [List.getD_eq_getElem?_getD, List.getElem?_append_left (show i < vs.length by omega)]
  have gn : (vs ++ [v]).getD m svO = v := by rw [← hvl]; simp [List.getD_eq_getElem?_getD]
  have yl : ∀ i, i < m → (Y ++ [p]).getD i Pm.one = Y.getD i Pm.one := fun i hi => by simp [List.getD_eq_getElem?_getD, List.getElem?_append_left (show i < Y.length by omega)]
  have yn : (Y ++ [p]).getD m Pm.one = p := by rw [hl]; simp [List.getD_eq_getElem?_getD]
  have keep : ∀ (u : SV) (q : Pm), FRow n w u q → (∀ b, a = some ⟨b, 0, none⟩ → u.1 ≠ some ⟨b, 0, none⟩) → FRow n w' u q := fun u q hu hne => ⟨hu.own.keep fun b hb hlt => hg.block b hlt fun e => hne b (hob b e.symm) hb, hu.len, hu.fx⟩
  refine ⟨ho, by simp [hl], fun i hi => ?_, fun i hi q hq => ?_⟩
  · by_cases e : i < m
    · rw [gl i e, yl i e]; exact keep _ _ (h.row i e) (h.ap i e)
    · obtain rfl : i = m := by omega
      rw [gn, yn]; exact keep _ _ hv hne
  · cases hq
    have fin : ∀ (u : SV) (q : Pm), FRow n w u q → (∀ b, a = some ⟨b, 0, none⟩ → u.1 ≠ some ⟨b, 0, none⟩) → u.1 ≠ some ⟨g, 0, none⟩ := fun u q hu hne e => by
      rcases hat with hat | hat
      · exact hne g (hob g hat) e
      · have := hu.own.hi g e; omega
    by_cases e : i < m
    · rw [gl i e]; exact fin _ _ (h.row i e) (h.ap i e)
    · obtain rfl : i = m := by omega
      rw [gn]; exact fin _ _ hv hne
/-- another row at a place -/
theorem Fac.set {g i : Nat} (h : Fac n w lo (some ⟨g, 0, none⟩) m c vs Y) (hi : i < m) (hv : FRow n w v p) (hne : v.1 ≠ some ⟨g, 0, none⟩) : Fac n (w.setCell ⟨g, i, none⟩ (sl v)) lo (some ⟨g, 0, none⟩) m c (vs.set i v) (Y.set i p) := by
  have hvl := h.hd.1
  have hl := h.len
  have keep : ∀ (u : SV) (q : Pm), FRow n w u q → u.1 ≠ some ⟨g, 0, none⟩ → FRow n (w.setCell ⟨g, i, none⟩ (sl v)) u q := fun u q hu hne => ⟨hu.own.keep fun b hb hlt => Below.heap_setCell _ _ _ _ (fun e => hne (by rw [hb, e])), hu.len, hu.fx⟩
  have hap : ∀ k, k < m → (vs.getD k svO).1 ≠ some ⟨g, 0, none⟩ := fun k hk => h.ap k hk g rfl
  refine ⟨?_, by rw [List.length_set]; exact hl, fun k hk => ?_, fun k hk q hq => ?_⟩
  · rcases h.hd.block with ⟨h1, _⟩ | ⟨g', cur, h1, h2, h3, h4, h5, h6, h7⟩
    · cases h1
    · cases h1
      refine ⟨by rw [List.length_set]; exact hvl, ownsRow_mk (by rw [List.length_set]; exact hvl) h2 (h3.set i _) h4 h5 (by simpa using h6) ?_⟩
      rw [Array.toList_setIfInBounds, List.take_set, h7, List.map_set]
  · by_cases e : k = i
    · subst e
      rw [show (vs.set k v).getD k svO = v by simp [List.getD_eq_getElem?_getD, show k < vs.length by omega], show (Y.set k p).getD k Pm.one = p by simp [List.getD_eq_getElem?_getD, show k < Y.length by omega]]
      exact keep _ _ hv hne
    · rw [show (vs.set i v).getD k svO = vs.getD k svO by simp [List.getD_eq_getElem?_getD, List.getElem?_set_ne (fun h => e h.symm)], show (Y.set i p).getD k Pm.one = Y.getD k Pm.one by simp [List.getD_eq_getElem?_getD, List.getElem?_set_ne (fun h => e h.symm)]]
      exact keep _ _ (h.row k hk) (hap k hk)
  · cases hq
    by_cases e : k = i
    · subst e
      rw [show (vs.set k v).getD k svO = v by simp [List.getD_eq_getElem?_getD, show k < vs.length by omega]]; exact hne
    · rw [show (vs.set i v).getD k svO = vs.getD k svO by simp [List.getD_eq_getElem?_getD, List.getElem?_set_ne (fun h => e h.symm)]]; exact hap k hk
end
end Go.Proofs.YtdkpalllfekiiaaGreat
