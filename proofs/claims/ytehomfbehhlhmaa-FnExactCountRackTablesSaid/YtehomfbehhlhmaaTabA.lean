/-
  append of one row to a slice of slices of numbers that the call owns.
  No condition but bounds on lengths.
-/
import Derived.Test.YtehomfbehhlhmaaTabO
import Derived.Deep.AppendLies
namespace Go.Proofs.Ytehomfbehhlhmaa
set_option maxRecDepth 100000
set_option linter.unusedVariables false
set_option linter.unusedSimpArgs false
open Go.RowKit

/-- a new slice of rows without a cell -/
theorem OwnT.fresh (w : World) {b : Nat} (hb : b = w.heap.size) : OwnT (w.alloc (.cells #[] 22)) w.heap.size (some ⟨b, 0, none⟩) 0 0 [] [] :=
  ⟨rfl, rfl, ownsRow_mk rfl (by omega) (Loc.new _ hb _ _) (Nat.le_refl _) (by unfold maxLen; omega) rfl rfl, fun i h => absurd h (by omega), fun i h => absurd h (by omega), fun i j h => absurd h (by omega)⟩

/-- what an append of a row leaves -/
theorem OwnT.snoc {w w' : World} {lo : Nat} {a : Option Addr} {n c : Nat} {vs : List SV} {xss : List (List Int)} {o : Obj} {g cap : Nat} {v : SV} {ys : List Int} (h : OwnT w lo a n c vs xss) (hv : Own w lo v.1 v.2.1 v.2.2 ys)
    (h1 : Apart a v.1) (h2 : ∀ j, j < n → Apart v.1 (vs.getD j svO).1) (ho : w'.ownsRow lo 22 1 (.slice (some ⟨g, 0, none⟩) (n + 1) cap) (n + 1) (vs.map sl ++ [sl v]))
    (hg : w.grownBy w' (Value.slice a n c).ownBlock) (hat : (Value.slice a n c).ownBlock = some g ∨ w.heap.size ≤ g) : OwnT w' lo (some ⟨g, 0, none⟩) (n + 1) cap (vs ++ [v]) (xss ++ [ys]) := by
  have hl := h.len
  have hvl := h.vlen
  have gl : ∀ i, i < n → (vs ++ [v]).getD i svO = vs.getD i svO := fun i hi => by simp [List.getD_eq_getElem?_getD, List.getElem?_append_left (show i < vs.length by omega)]
  have gn : (vs ++ [v]).getD n svO = v := by rw [← hvl]; simp [List.getD_eq_getElem?_getD]
  have xl : ∀ i, i < n → (xss ++ [ys]).getD i [] = xss.getD i [] := fun i hi => by simp [List.getD_eq_getElem?_getD, List.getElem?_append_left (show i < xss.length by omega)]
  have xn : (xss ++ [ys]).getD n [] = ys := by rw [hl]; simp [List.getD_eq_getElem?_getD]
  have hob : ∀ g', (Value.slice a n c).ownBlock = some g' → a = some ⟨g', 0, none⟩ := fun g' e => by
    rcases h.block with ⟨r1, _⟩ | ⟨g2, cur, r1, _⟩
    · subst r1; simp [Value.ownBlock] at e
    · subst r1; simp [Value.ownBlock] at e; subst e; rfl
  have keepR : ∀ i, i < n → Own w' lo (vs.getD i svO).1 (vs.getD i svO).2.1 (vs.getD i svO).2.2 (xss.getD i []) := fun i hi =>
    (h.row i hi).grown hg fun g' hg' e => h.ap i hi g' (hob g' e.symm) hg'
  have keepV : Own w' lo v.1 v.2.1 v.2.2 ys := hv.grown hg fun g' hg' e => h1 g' (hob g' e.symm) hg'
  have apg : ∀ b : Option Addr, (∀ g', b = some ⟨g', 0, none⟩ → g' < w.heap.size) → Apart a b → Apart (some ⟨g, 0, none⟩) b := fun b hb hab g' e hb' => by
    cases e
    rcases hat with hat | hat
    · exact hab g (hob g hat) hb'
    · have := hb g hb'; omega
  refine ⟨by simp [hl], by simp [hvl], by simpa using ho, fun i hi => ?_, fun i hi => ?_, fun i j hi hj hij => ?_⟩
  · by_cases e : i < n
    · rw [gl i e, xl i e]; exact keepR i e
    · obtain rfl : i = n := by omega
      rw [gn, xn]; exact keepV
  · by_cases e : i < n
    · rw [gl i e]; exact apg _ (h.row i e).hi (h.ap i e)
    · obtain rfl : i = n := by omega
      rw [gn]; exact apg _ hv.hi h1
  · by_cases e : i < n
    · by_cases e' : j < n
      · rw [gl i e, gl j e']; exact h.pw i j e e' hij
      · obtain rfl : j = n := by omega
        rw [gl i e, gn]; exact (h2 i e).symm
    · obtain rfl : i = n := by omega
      rw [gn, gl j (by omega)]; exact h2 j (by omega)

/-- append of one row -/
theorem appT1 {ops : Array Oper} {rest : List Oper} {o : Oper} {a : Act} {Q : Exit → Act → World → Prop} {w : World} (hgd : o.guard = none) {s x : Operand}
    (ho : o.op = .call { callee := .builtin .append, args := #[s, x], argTypes := #[43, 43] }) {lo : Nat} {ad : Option Addr} {n c : Nat} {vs : List SV} {xss : List (List Int)} (hown : OwnT w lo ad n c vs xss) (hs : a.eval s = .slice ad n c)
    {va : Option Addr} {vn vc : Nat} {ys : List Int} {t : TypeId} (hv : Own w lo va vn vc ys) (h1 : Apart ad va) (h2 : ∀ j, j < n → Apart va (vs.getD j svO).1) (hx : a.eval x = .slice (some ⟨w.heap.size, 0, none⟩) 1 1) (hlen : n + 1 ≤ 1000000000000) (hlo : lo ≤ w.heap.size)
    (h : ∀ g c' w', OwnT w' lo (some ⟨g, 0, none⟩) (n + 1) c' (vs ++ [(va, vn, vc)]) (xss ++ [ys]) → Below lo w w' → wpList Try.prog ops Q rest (a.put o.dst (.slice (some ⟨g, 0, none⟩) (n + 1) c')) w') :
    wpList Try.prog ops Q (o :: rest) a (w.alloc (.cells #[.slice va vn vc] t)) := by
  obtain ⟨i0, hi, hz0, hz1, hz2⟩ := info_parts info_rows
  refine wpList_plain hgd fun _ hK => ?_
  refine wp_append_lies _ s x 43 ho lo 22 i0 (.slice none 0 0) 1 24 und_rows hi hz0 hz1 hz2 rfl (by decide) _ n (vs.map sl) hs (hown.hdr.alloc _) ⟨w.heap.size, 0, none⟩ 1 1 [.slice va vn vc] hx rfl (cell_one_new _ _ _) ?_ (by omega) ?_ ?_ ?_ (w.heap.size + 1) (by simp) ?_
  · intro u hu; simp at hu; subst hu; rfl
  · unfold maxLen; omega
  · omega
  · simp; omega
  · intro g cap w' ho' hg hat hlt
    have hg' : w.grownBy w' (Value.slice ad n c).ownBlock := by
      have h1 := World.grownBy_alloc w (.cells #[.slice va vn vc] t) (Value.slice ad n c).ownBlock
      exact ⟨hg.os.trans h1.os, hg.tape.trans h1.tape, hg.output.trans h1.output, Nat.le_trans h1.size hg.size, fun k hk hn => (hg.block k (Nat.lt_of_lt_of_le hk h1.size) hn).trans (h1.block k hk hn)⟩
    refine hK _ _ (h g cap w' (hown.snoc (o := .cells #[] t) (v := (va, vn, vc)) hv h1 h2 ho' hg' ?_) ((Below.refl _ _).grown hg' hlo (fun k hk => (World.ownsRow.lt hown.hdr k hk).1)))
    rcases hat with hat | hat
    · exact .inl hat
    · exact .inr (by omega)

end Go.Proofs.Ytehomfbehhlhmaa
