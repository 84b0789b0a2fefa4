/-
  append of one row to a slice of slices, with what it leaves of everything else; two slices of slices that lie apart.
  No condition but bounds on lengths.
-/
import Derived.Test.YtehomfbehhlhmaaTabA
import Derived.Test.YtehomfbehhlhmaaUT
namespace Go.Proofs.Ytehomfbehhlhmaa
set_option maxRecDepth 100000
set_option linter.unusedVariables false
set_option linter.unusedSimpArgs false
open Go.RowKit

theorem wp_appT1 {o : Oper} {a : Act} {K : Act → World → Prop} {Q : Exit → Act → World → Prop} {w : World} {s x : Operand}
    (ho : o.op = .call { callee := .builtin .append, args := #[s, x], argTypes := #[43, 43] }) {lo : Nat} {ad : Option Addr} {n c : Nat} {vs : List SV} {xss : List (List Int)} (hown : OwnT w lo ad n c vs xss) (hs : a.eval s = .slice ad n c)
    {va : Option Addr} {vn vc : Nat} {ys : List Int} {t : TypeId} (hv : Own w lo va vn vc ys) (h1 : Apart ad va) (h2 : ∀ j, j < n → Apart va (vs.getD j svO).1) (hx : a.eval x = .slice (some ⟨w.heap.size, 0, none⟩) 1 1) (hlen : n + 1 ≤ 1000000000000) (hlo : lo ≤ w.heap.size)
    (h : ∀ g c' w', OwnT w' lo (some ⟨g, 0, none⟩) (n + 1) c' (vs ++ [(va, vn, vc)]) (xss ++ [ys]) → w.grownBy w' (Value.slice ad n c).ownBlock → ((Value.slice ad n c).ownBlock = some g ∨ w.heap.size ≤ g) → Below lo w w' → K (a.put o.dst (.slice (some ⟨g, 0, none⟩) (n + 1) c')) w') :
    Oper.wp Try.prog o a (w.alloc (.cells #[.slice va vn vc] t)) K Q := by
  obtain ⟨i0, hi, hz0, hz1, hz2⟩ := info_parts info_rows
  refine wp_append_lies _ s x 43 ho lo 22 i0 (.slice none 0 0) 1 24 und_rows hi hz0 hz1 hz2 rfl (by decide) _ n (vs.map sl) hs (hown.hdr.alloc _) ⟨w.heap.size, 0, none⟩ 1 1 [.slice va vn vc] hx rfl (cell_one_new _ _ _) ?_ (by omega) ?_ ?_ ?_ (w.heap.size + 1) (by simp) ?_
  · intro u hu; simp at hu; subst hu; rfl
  · unfold maxLen; omega
  · omega
  · simp; omega
  · intro g cap w' ho' hg hat hlt
    have hg' : w.grownBy w' (Value.slice ad n c).ownBlock := by
      have h1 := World.grownBy_alloc w (.cells #[.slice va vn vc] t) (Value.slice ad n c).ownBlock
      exact ⟨hg.os.trans h1.os, hg.tape.trans h1.tape, hg.output.trans h1.output, Nat.le_trans h1.size hg.size, fun k hk hn => (hg.block k (Nat.lt_of_lt_of_le hk h1.size) hn).trans (h1.block k hk hn)⟩
    have hat' : (Value.slice ad n c).ownBlock = some g ∨ w.heap.size ≤ g := by
      rcases hat with hat | hat
      · exact .inl hat
      · exact .inr (by omega)
    exact h g cap w' (hown.snoc (o := .cells #[] t) (v := (va, vn, vc)) hv h1 h2 ho' hg' hat') hg' hat' ((Below.refl _ _).grown hg' hlo (fun k hk => (World.ownsRow.lt hown.hdr k hk).1))

theorem appT1g {ops : Array Oper} {rest : List Oper} {o : Oper} {a : Act} {Q : Exit → Act → World → Prop} {w : World} (hgd : o.guard = none) {s x : Operand}
    (ho : o.op = .call { callee := .builtin .append, args := #[s, x], argTypes := #[43, 43] }) {lo : Nat} {ad : Option Addr} {n c : Nat} {vs : List SV} {xss : List (List Int)} (hown : OwnT w lo ad n c vs xss) (hs : a.eval s = .slice ad n c)
    {va : Option Addr} {vn vc : Nat} {ys : List Int} {t : TypeId} (hv : Own w lo va vn vc ys) (h1 : Apart ad va) (h2 : ∀ j, j < n → Apart va (vs.getD j svO).1) (hx : a.eval x = .slice (some ⟨w.heap.size, 0, none⟩) 1 1) (hlen : n + 1 ≤ 1000000000000) (hlo : lo ≤ w.heap.size)
    (h : ∀ g c' w', OwnT w' lo (some ⟨g, 0, none⟩) (n + 1) c' (vs ++ [(va, vn, vc)]) (xss ++ [ys]) → w.grownBy w' (Value.slice ad n c).ownBlock → ((Value.slice ad n c).ownBlock = some g ∨ w.heap.size ≤ g) → Below lo w w' → wpList Try.prog ops Q rest (a.put o.dst (.slice (some ⟨g, 0, none⟩) (n + 1) c')) w') :
    wpList Try.prog ops Q (o :: rest) a (w.alloc (.cells #[.slice va vn vc] t)) :=
  wpList_plain hgd fun _ hK => wp_appT1 ho hown hs hv h1 h2 hx hlen hlo fun g c' w' a b c d => hK _ _ (h g c' w' a b c d)

theorem step_appT1n {ops : Array Oper} {o : Oper} {a : Act} {K : Act → World → Prop} {Q : Exit → Act → World → Prop} {E : Prop} {w : World} (hgd : o.guard = none) {s x : Operand}
    (ho : o.op = .call { callee := .builtin .append, args := #[s, x], argTypes := #[43, 43] }) {lo : Nat} {ad : Option Addr} {n c : Nat} {vs : List SV} {xss : List (List Int)} (hown : OwnT w lo ad n c vs xss) (hs : a.eval s = .slice ad n c)
    {va : Option Addr} {vn vc : Nat} {ys : List Int} {t : TypeId} (hv : Own w lo va vn vc ys) (h1 : Apart ad va) (h2 : ∀ j, j < n → Apart va (vs.getD j svO).1) (hx : a.eval x = .slice (some ⟨w.heap.size, 0, none⟩) 1 1) (hlen : n + 1 ≤ 1000000000000) (hlo : lo ≤ w.heap.size)
    (h : ∀ g c' w', OwnT w' lo (some ⟨g, 0, none⟩) (n + 1) c' (vs ++ [(va, vn, vc)]) (xss ++ [ys]) → w.grownBy w' (Value.slice ad n c).ownBlock → ((Value.slice ad n c).ownBlock = some g ∨ w.heap.size ≤ g) → Below lo w w' → K (a.put o.dst (.slice (some ⟨g, 0, none⟩) (n + 1) c')) w') :
    if Region.wanted o (yielded ops a.tmps) = true then Oper.wp Try.prog o a (w.alloc (.cells #[.slice va vn vc] t)) K Q else E := by
  have hw : Region.wanted o (yielded ops a.tmps) = true := by simp [Region.wanted, hgd]
  rw [if_pos hw]
  exact wp_appT1 ho hown hs hv h1 h2 hx hlen hlo h

/-! ### two slices of slices -/
/-- no block of the one is a block of the other -/
def ApT (a : Option Addr) (n : Nat) (vs : List SV) (a' : Option Addr) (n' : Nat) (vs' : List SV) : Prop := ∀ g, TblS a n vs g → ¬ TblS a' n' vs' g
theorem ApT.symm {a a' : Option Addr} {n n' : Nat} {vs vs' : List SV} (h : ApT a n vs a' n' vs') : ApT a' n' vs' a n vs := fun g h1 h2 => h g h2 h1
section
variable {w w' : World} {lo : Nat} {a a' : Option Addr} {n n' c c' : Nat} {vs vs' : List SV} {xss yss : List (List Int)}
theorem OwnT.ownBlk (h : OwnT w lo a n c vs xss) {g : Nat} (e : (Value.slice a n c).ownBlock = some g) : TblS a n vs g := by
  rcases h.block with ⟨r1, _⟩ | ⟨g2, cur, r1, _⟩
  · subst r1; simp [Value.ownBlock] at e
  · subst r1; simp [Value.ownBlock] at e; subst e; exact .inl rfl
/-- the other one stays -/
theorem OwnT.other (h : OwnT w lo a n c vs xss) (h' : OwnT w lo a' n' c' vs' yss) (hap : ApT a n vs a' n' vs') (hg : w.grownBy w' (Value.slice a n c).ownBlock) : OwnT w' lo a' n' c' vs' yss :=
  h'.keep fun g hg' hlt => hg.block g hlt fun e => hap g (h.ownBlk e.symm) hg'
/-- behind an append the two lie apart -/
theorem ApT.snoc (h : OwnT w lo a n c vs xss) (h' : OwnT w lo a' n' c' vs' yss) (hap : ApT a n vs a' n' vs') {g : Nat} {v : SV} (hvl : vs.length = n) (hat : (Value.slice a n c).ownBlock = some g ∨ w.heap.size ≤ g) (hv : ∀ q, v.1 = some ⟨q, 0, none⟩ → ¬ TblS a' n' vs' q) : ApT (some ⟨g, 0, none⟩) (n + 1) (vs ++ [v]) a' n' vs' := by
  intro q hq h2
  rcases hq with e | ⟨i, hi, e⟩
  · cases e
    rcases hat with hat | hat
    · exact hap _ (h.ownBlk hat) h2
    · have := h'.uHi _ h2; omega
  · by_cases hin : i < n
    · have : (vs ++ [v]).getD i svO = vs.getD i svO := by simp [List.getD_eq_getElem?_getD, List.getElem?_append_left (show i < vs.length by omega)]
      rw [this] at e
      exact hap _ (.inr ⟨i, hin, e⟩) h2
    · obtain rfl : i = n := by omega
      have : (vs ++ [v]).getD i svO = v := by rw [← hvl]; simp [List.getD_eq_getElem?_getD]
      rw [this] at e
      exact hv _ e h2
end
end Go.Proofs.Ytehomfbehhlhmaa
