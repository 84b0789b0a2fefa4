/-
  Walks and plain laws of this seat, some texts in one.
  No condition but bounds on lengths.
-/
import Derived.Test.YtaddclaadbjnlaaGreatPr2
import Derived.Deep.AppendLies
import Derived.Test.YtaddclaadbjnlaaGreatPr1
namespace Go.Proofs.YtaddclaadbjnlaaGreat
set_option maxRecDepth 100000
set_option linter.unusedVariables false
set_option linter.unusedSimpArgs false
open Go.RowKit
theorem OwnT.fresh (w : World) {b : Nat} (hb : b = w.heap.size) : OwnT (w.alloc (.cells #[] 41)) w.heap.size (some ⟨b, 0, none⟩) 0 0 [] [] :=
  ⟨rfl, rfl, ownsRow_mk rfl (by omega) (Loc.new _ hb _ _) (Nat.le_refl _) (by unfold maxLen; omega) rfl rfl, fun i h => absurd h (by omega), fun i h => absurd h (by omega), fun i j h => absurd h (by omega)⟩
theorem OwnT.snoc {w w' : World} {lo : Nat} {a : Option Addr} {n c : Nat} {vs : List SV} {xss : List (List Int)} {o : Obj} {g cap : Nat} {v : SV} {ys : List Int} (h : OwnT w lo a n c vs xss) (hv : Own w lo v.1 v.2.1 v.2.2 ys)
    (h1 : Apart a v.1) (h2 : ∀ j, j < n → Apart v.1 (vs.getD j svO).1) (ho : w'.ownsRow lo 41 1 (.slice (some ⟨g, 0, none⟩) (n + 1) cap) (n + 1) (vs.map sl ++ [sl v]))
    (hg : w.grownBy w' (Value.slice a n c).ownBlock) (hat : (Value.slice a n c).ownBlock = some g ∨ w.heap.size ≤ g) : OwnT w' lo (some ⟨g, 0, none⟩) (n + 1) cap (vs ++ [v]) (xss ++ [ys]) := by
  have hl := h.len
  have hvl := h.vlen
  have gl : ∀ i, i < n → (vs ++ [v]).getD i svO = vs.getD i svO := fun i hi => by simp [List.getD_eq_getElem?_getD, List.getElem?_append_left (show i < vs.length by omega)]
  have gn : (vs ++ [v]).getD n svO = v := by rw [← hvl]; simp [List.getD_eq_getElem?_getD]
  have xl : ∀ i, i < n → (xss ++ [ys]).getD i [] = xss.getD i [] := fun i hi => by simp [List.getD_eq_getElem?_getD, List.getElem?_append_left (show i < xss.length by omega)]
  have xn : (xss ++ [ys]).getD n [] = ys := by rw [hl]; simp [List.getD_eq_getElem?_getD]
  have hob : ∀ g', (Value.slice a n c).ownBlock = some g' → a = some ⟨g', 0, none⟩ := fun g' e => by
    rcases h.block with ⟨r1, _⟩ | ⟨g2, cur, r1, _⟩
    · subst r1; simp [Value.ownBlock] at e
    · subst r1; simp [Value.ownBlock] at e; subst e; rfl
  have keepR : ∀ i, i < n → Own w' lo (vs.getD i svO).1 (vs.getD i svO).2.1 (vs.getD i svO).2.2 (xss.getD i []) := fun i hi =>
    (h.row i hi).grown hg fun g' hg' e => h.ap i hi g' (hob g' e.symm) hg'
  have keepV : Own w' lo v.1 v.2.1 v.2.2 ys := hv.grown hg fun g' hg' e => h1 g' (hob g' e.symm) hg'
  have apg : ∀ b : Option Addr, (∀ g', b = some ⟨g', 0, none⟩ → g' < w.heap.size) → Apart a b → Apart (some ⟨g, 0, none⟩) b := fun b hb hab g' e hb' => by
    cases e
    rcases hat with hat | hat
    · exact hab g (hob g hat) hb'
    · have := hb g hb'; omega
  refine ⟨by simp [hl], by simp [hvl], by simpa using ho, fun i hi => ?_, fun i hi => ?_, fun i j hi hj hij => ?_⟩
  · by_cases e : i < n
    · rw [gl i e, xl i e]; exact keepR i e
    · obtain rfl : i = n := by omega
      rw [gn, xn]; exact keepV
  · by_cases e : i < n
    · rw [gl i e]; exact apg _ (h.row i e).hi (h.ap i e)
    · obtain rfl : i = n := by omega
      rw [gn]; exact apg _ hv.hi h1
  · by_cases e : i < n
    · by_cases e' : j < n
      · rw [gl i e, gl j e']; exact h.pw i j e e' hij
      · obtain rfl : j = n := by omega
        rw [gl i e, gn]; exact (h2 i e).symm
    · obtain rfl : i = n := by omega
      rw [gn, gl j (by omega)]; exact h2 j (by omega)
theorem appT1 {ops : Array Oper} {rest : List Oper} {o : Oper} {a : Act} {Q : Exit → Act → World → Prop} {w : World} (hgd : o.guard = none) {s x : Operand}
    (ho : o.op = .call { callee := .builtin .append, args := #[s, x], argTypes := #[32, 32] }) {lo : Nat} {ad : Option Addr} {n c : Nat} {vs : List SV} {xss : List (List Int)} (hown : OwnT w lo ad n c vs xss) (hs : a.eval s = .slice ad n c)
    {va : Option Addr} {vn vc : Nat} {ys : List Int} {t : TypeId} (hv : Own w lo va vn vc ys) (h1 : Apart ad va) (h2 : ∀ j, j < n → Apart va (vs.getD j svO).1) (hx : a.eval x = .slice (some ⟨w.heap.size, 0, none⟩) 1 1) (hlen : n + 1 ≤ 1000000000000) (hlo : lo ≤ w.heap.size)
    (h : ∀ g c' w', OwnT w' lo (some ⟨g, 0, none⟩) (n + 1) c' (vs ++ [(va, vn, vc)]) (xss ++ [ys]) → Below lo w w' → wpList Tryz.prog ops Q rest (a.put o.dst (.slice (some ⟨g, 0, none⟩) (n + 1) c')) w') :
    wpList Tryz.prog ops Q (o :: rest) a (w.alloc (.cells #[.slice va vn vc] t)) := by
  obtain ⟨i0, hi, hz0, hz1, hz2⟩ := info_parts info_rows
  refine wpList_plain hgd fun _ hK => ?_
  refine wp_append_lies _ s x 32 ho lo 41 i0 (.slice none 0 0) 1 24 und_rows hi hz0 hz1 hz2 rfl (by decide) _ n (vs.map sl) hs (hown.hdr.alloc _) ⟨w.heap.size, 0, none⟩ 1 1 [.slice va vn vc] hx rfl (cell_one_new _ _ _) ?_ (by omega) ?_ ?_ ?_ (w.heap.size + 1) (by simp) ?_
  · intro u hu; simp at hu; subst hu; rfl
  · unfold maxLen; omega
  · omega
  · simp; omega
  · intro g cap w' ho' hg hat hlt
    have hg' : w.grownBy w' (Value.slice ad n c).ownBlock := by
      have h1 := World.grownBy_alloc w (.cells #[.slice va vn vc] t) (Value.slice ad n c).ownBlock
      exact ⟨hg.os.trans h1.os, hg.tape.trans h1.tape, hg.output.trans h1.output, Nat.le_trans h1.size hg.size, fun k hk hn => (hg.block k (Nat.lt_of_lt_of_le hk h1.size) hn).trans (h1.block k hk hn)⟩
    refine hK _ _ (h g cap w' (hown.snoc (o := .cells #[] t) (v := (va, vn, vc)) hv h1 h2 ho' hg' ?_) ((Below.refl _ _).grown hg' hlo (fun k hk => (World.ownsRow.lt hown.hdr k hk).1)))
    rcases hat with hat | hat
    · exact .inl hat
    · exact .inr (by omega)
end Go.Proofs.YtaddclaadbjnlaaGreat

namespace Go.Proofs.YtaddclaadbjnlaaGreat
set_option maxRecDepth 100000
set_option linter.unusedVariables false
set_option linter.unusedSimpArgs false
open Go.RowKit
def RowS (a : Option Addr) (g : Nat) : Prop := a = some ⟨g, 0, none⟩
section
variable {w w' : World} {lo : Nat} {a a1 a2 : Option Addr} {n n1 n2 c c1 c2 : Nat} {xs : List Int}
theorem Own.uLo (h : Own w lo a n c xs) : ∀ g, RowS a g → lo ≤ g := h.lo
theorem Own.uHi (h : Own w lo a n c xs) : ∀ g, RowS a g → g < w.heap.size := h.hi
theorem Own.uKeep (h : Own w lo a n c xs) {S : Nat → Prop} (hm : Marked S w w') (hS : ∀ g, RowS a g → ¬ S g) : Own w' lo a n c xs := h.keep fun g hg hlt => hm.block g hlt (hS g hg)
end
theorem Marked.trans {S : Nat → Prop} {a b c : World} (h : Marked S a b) (k : Marked S b c) : Marked S a c :=
  ⟨k.os.trans h.os, k.tape.trans h.tape, k.output.trans h.output, Nat.le_trans h.size k.size, fun i hi hs => (k.block i (Nat.lt_of_lt_of_le hi h.size) hs).trans (h.block i hi hs)⟩
theorem Marked.mono {S T : Nat → Prop} {w w' : World} (h : Marked S w w') (hS : ∀ g, S g → T g) : Marked T w w' :=
  ⟨h.os, h.tape, h.output, h.size, fun k hk hs => h.block k hk (fun x => hs (hS k x))⟩
theorem Marked.alloc {S : Nat → Prop} {w w' : World} {o : Obj} (h : Marked S (w.alloc o) w') : Marked S w w' :=
  ⟨h.os, h.tape, h.output, Nat.le_trans (by simp) h.size, fun k hk hs => (h.block k (by simp; omega) hs).trans (Below.heap_alloc _ _ _ hk)⟩
theorem Row.marked {w w' : World} {S : Nat → Prop} {lo : Nat} {a : Option Addr} {n c : Nat} {xs : List Int} (h : Own w lo a n c xs) (hm : Marked S w w') (hS : ∀ g, RowS a g → ¬ S g) : Row w' a n xs := (h.uKeep hm hS).row
end Go.Proofs.YtaddclaadbjnlaaGreat

namespace Go.Proofs.YtaddclaadbjnlaaGreat
set_option maxRecDepth 100000
set_option linter.unusedVariables false
set_option linter.unusedSimpArgs false
open Go.RowKit
def tot (xss : List (List Int)) : Nat := (xss.map List.length).sum
/-! ### sz -/
/-! ### eq -/
/-! ### held -/
/-! ### mark -/
/-! ### to -/
theorem copyT_step (xss : List (List Int)) (n k : Nat) (hl : n = xss.length) (hx : k < xss.length) : (xss.take k ++ List.replicate (n - k) []).set k xss[k] = xss.take (k + 1) ++ List.replicate (n - (k + 1)) [] := by
  have e : (xss.take k).length = k := by rw [List.length_take]; omega
  rw [List.set_append_right _ _ (by omega), e, Nat.sub_self, List.take_succ_eq_append_getElem hx, List.append_assoc]
  congr 1
  obtain ⟨m, hm⟩ : ∃ m, n - k = m + 1 := ⟨n - k - 1, by omega⟩
  have hm' : n - (k + 1) = m := by omega
  rw [hm, hm', List.replicate_succ]
  rfl
/-! ### in one form: 'Below' -/
def RetI (w : World) (x : Int) (code : Int) (e : Ending) (w' : World) : Prop := e = .returned (.tuple #[.int .i64 x, .int .i64 code]) ∧ Below w.heap.size w w'
end Go.Proofs.YtaddclaadbjnlaaGreat

namespace Go.Proofs.YtaddclaadbjnlaaGreat
set_option maxRecDepth 100000
set_option linter.unusedVariables false
set_option linter.unusedSimpArgs false
open Go.RowKit
def TblS (a : Option Addr) (n : Nat) (vs : List SV) (g : Nat) : Prop := a = some ⟨g, 0, none⟩ ∨ ∃ i, i < n ∧ (vs.getD i svO).1 = some ⟨g, 0, none⟩
section
variable {w w' : World} {lo : Nat} {a a1 a2 : Option Addr} {n n1 n2 c c1 c2 : Nat} {vs : List SV} {xss : List (List Int)}
theorem OwnT.uLo (h : OwnT w lo a n c vs xss) : ∀ g, TblS a n vs g → lo ≤ g := fun g hg => h.blo g hg
theorem OwnT.uHi (h : OwnT w lo a n c vs xss) : ∀ g, TblS a n vs g → g < w.heap.size := fun g hg => h.bhi g hg
theorem OwnT.uKeep (h : OwnT w lo a n c vs xss) {S : Nat → Prop} (hm : Marked S w w') (hS : ∀ g, TblS a n vs g → ¬ S g) : OwnT w' lo a n c vs xss := h.keep fun g hg hlt => hm.block g hlt (hS g hg)
end
end Go.Proofs.YtaddclaadbjnlaaGreat

namespace Go.Proofs.YtaddclaadbjnlaaGreat
set_option maxRecDepth 100000
set_option linter.unusedVariables false
set_option linter.unusedSimpArgs false
open Go.RowKit
theorem wp_appT1 {o : Oper} {a : Act} {K : Act → World → Prop} {Q : Exit → Act → World → Prop} {w : World} {s x : Operand}
    (ho : o.op = .call { callee := .builtin .append, args := #[s, x], argTypes := #[32, 32] }) {lo : Nat} {ad : Option Addr} {n c : Nat} {vs : List SV} {xss : List (List Int)} (hown : OwnT w lo ad n c vs xss) (hs : a.eval s = .slice ad n c)
    {va : Option Addr} {vn vc : Nat} {ys : List Int} {t : TypeId} (hv : Own w lo va vn vc ys) (h1 : Apart ad va) (h2 : ∀ j, j < n → Apart va (vs.getD j svO).1) (hx : a.eval x = .slice (some ⟨w.heap.size, 0, none⟩) 1 1) (hlen : n + 1 ≤ 1000000000000) (hlo : lo ≤ w.heap.size)
    (h : ∀ g c' w', OwnT w' lo (some ⟨g, 0, none⟩) (n + 1) c' (vs ++ [(va, vn, vc)]) (xss ++ [ys]) → w.grownBy w' (Value.slice ad n c).ownBlock → ((Value.slice ad n c).ownBlock = some g ∨ w.heap.size ≤ g) → Below lo w w' → K (a.put o.dst (.slice (some ⟨g, 0, none⟩) (n + 1) c')) w') :
    Oper.wp Tryz.prog o a (w.alloc (.cells #[.slice va vn vc] t)) K Q := by
  obtain ⟨i0, hi, hz0, hz1, hz2⟩ := info_parts info_rows
  refine wp_append_lies _ s x 32 ho lo 41 i0 (.slice none 0 0) 1 24 und_rows hi hz0 hz1 hz2 rfl (by decide) _ n (vs.map sl) hs (hown.hdr.alloc _) ⟨w.heap.size, 0, none⟩ 1 1 [.slice va vn vc] hx rfl (cell_one_new _ _ _) ?_ (by omega) ?_ ?_ ?_ (w.heap.size + 1) (by simp) ?_
  · intro u hu; simp at hu; subst hu; rfl
  · unfold maxLen; omega
  · omega
  · simp; omega
  · intro g cap w' ho' hg hat hlt
    have hg' : w.grownBy w' (Value.slice ad n c).ownBlock := by
      have h1 := World.grownBy_alloc w (.cells #[.slice va vn vc] t) (Value.slice ad n c).ownBlock
      exact ⟨hg.os.trans h1.os, hg.tape.trans h1.tape, hg.output.trans h1.output, Nat.le_trans h1.size hg.size, fun k hk hn => (hg.block k (Nat.lt_of_lt_of_le hk h1.size) hn).trans (h1.block k hk hn)⟩
    have hat' : (Value.slice ad n c).ownBlock = some g ∨ w.heap.size ≤ g := by
      rcases hat with hat | hat
      · exact .inl hat
      · exact .inr (by omega)
    exact h g cap w' (hown.snoc (o := .cells #[] t) (v := (va, vn, vc)) hv h1 h2 ho' hg' hat') hg' hat' ((Below.refl _ _).grown hg' hlo (fun k hk => (World.ownsRow.lt hown.hdr k hk).1))
theorem appT1g {ops : Array Oper} {rest : List Oper} {o : Oper} {a : Act} {Q : Exit → Act → World → Prop} {w : World} (hgd : o.guard = none) {s x : Operand}
    (ho : o.op = .call { callee := .builtin .append, args := #[s, x], argTypes := #[32, 32] }) {lo : Nat} {ad : Option Addr} {n c : Nat} {vs : List SV} {xss : List (List Int)} (hown : OwnT w lo ad n c vs xss) (hs : a.eval s = .slice ad n c)
    {va : Option Addr} {vn vc : Nat} {ys : List Int} {t : TypeId} (hv : Own w lo va vn vc ys) (h1 : Apart ad va) (h2 : ∀ j, j < n → Apart va (vs.getD j svO).1) (hx : a.eval x = .slice (some ⟨w.heap.size, 0, none⟩) 1 1) (hlen : n + 1 ≤ 1000000000000) (hlo : lo ≤ w.heap.size)
    (h : ∀ g c' w', OwnT w' lo (some ⟨g, 0, none⟩) (n + 1) c' (vs ++ [(va, vn, vc)]) (xss ++ [ys]) → w.grownBy w' (Value.slice ad n c).ownBlock → ((Value.slice ad n c).ownBlock = some g ∨ w.heap.size ≤ g) → Below lo w w' → wpList Tryz.prog ops Q rest (a.put o.dst (.slice (some ⟨g, 0, none⟩) (n + 1) c')) w') :
    wpList Tryz.prog ops Q (o :: rest) a (w.alloc (.cells #[.slice va vn vc] t)) :=
  wpList_plain hgd fun _ hK => wp_appT1 ho hown hs hv h1 h2 hx hlen hlo fun g c' w' a b c d => hK _ _ (h g c' w' a b c d)
theorem step_appT1n {ops : Array Oper} {o : Oper} {a : Act} {K : Act → World → Prop} {Q : Exit → Act → World → Prop} {E : Prop} {w : World} (hgd : o.guard = none) {s x : Operand}
    (ho : o.op = .call { callee := .builtin .append, args := #[s, x], argTypes := #[32, 32] }) {lo : Nat} {ad : Option Addr} {n c : Nat} {vs : List SV} {xss : List (List Int)} (hown : OwnT w lo ad n c vs xss) (hs : a.eval s = .slice ad n c)
    {va : Option Addr} {vn vc : Nat} {ys : List Int} {t : TypeId} (hv : Own w lo va vn vc ys) (h1 : Apart ad va) (h2 : ∀ j, j < n → Apart va (vs.getD j svO).1) (hx : a.eval x = .slice (some ⟨w.heap.size, 0, none⟩) 1 1) (hlen : n + 1 ≤ 1000000000000) (hlo : lo ≤ w.heap.size)
    (h : ∀ g c' w', OwnT w' lo (some ⟨g, 0, none⟩) (n + 1) c' (vs ++ [(va, vn, vc)]) (xss ++ [ys]) → w.grownBy w' (Value.slice ad n c).ownBlock → ((Value.slice ad n c).ownBlock = some g ∨ w.heap.size ≤ g) → Below lo w w' → K (a.put o.dst (.slice (some ⟨g, 0, none⟩) (n + 1) c')) w') :
    if Region.wanted o (yielded ops a.tmps) = true then Oper.wp Tryz.prog o a (w.alloc (.cells #[.slice va vn vc] t)) K Q else E := by
  have hw : Region.wanted o (yielded ops a.tmps) = true := by simp [Region.wanted, hgd]
  rw [if_pos hw]
  exact wp_appT1 ho hown hs hv h1 h2 hx hlen hlo h
/-! ### two slices of slices -/
def ApT (a : Option Addr) (n : Nat) (vs : List SV) (a' : Option Addr) (n' : Nat) (vs' : List SV) : Prop := ∀ g, TblS a n vs g → ¬ TblS a' n' vs' g
theorem ApT.symm {a a' : Option Addr} {n n' : Nat} {vs vs' : List SV} (h : ApT a n vs a' n' vs') : ApT a' n' vs' a n vs := fun g h1 h2 => h g h2 h1
section
variable {w w' : World} {lo : Nat} {a a' : Option Addr} {n n' c c' : Nat} {vs vs' : List SV} {xss yss : List (List Int)}
theorem OwnT.ownBlk (h : OwnT w lo a n c vs xss) {g : Nat} (e : (Value.slice a n c).ownBlock = some g) : TblS a n vs g := by
  rcases h.block with ⟨r1, _⟩ | ⟨g2, cur, r1, _⟩
  · subst r1; simp [Value.ownBlock] at e
  · subst r1; simp [Value.ownBlock] at e; subst e; exact .inl rfl
theorem OwnT.other (h : OwnT w lo a n c vs xss) (h' : OwnT w lo a' n' c' vs' yss) (hap : ApT a n vs a' n' vs') (hg : w.grownBy w' (Value.slice a n c).ownBlock) : OwnT w' lo a' n' c' vs' yss :=
  h'.keep fun g hg' hlt => hg.block g hlt fun e => hap g (h.ownBlk e.symm) hg'
theorem ApT.snoc (h : OwnT w lo a n c vs xss) (h' : OwnT w lo a' n' c' vs' yss) (hap : ApT a n vs a' n' vs') {g : Nat} {v : SV} (hvl : vs.length = n) (hat : (Value.slice a n c).ownBlock = some g ∨ w.heap.size ≤ g) (hv : ∀ q, v.1 = some ⟨q, 0, none⟩ → ¬ TblS a' n' vs' q) : ApT (some ⟨g, 0, none⟩) (n + 1) (vs ++ [v]) a' n' vs' := by
  intro q hq h2
  rcases hq with e | ⟨i, hi, e⟩
  · cases e
    rcases hat with hat | hat
    · exact hap _ (h.ownBlk hat) h2
    · have := h'.uHi _ h2; omega
  · by_cases hin : i < n
    · have : (vs ++ [v]).getD i svO = vs.getD i svO := by simp [List.getD_eq_getElem?_getD, List.getElem?_append_left (show i < vs.length by omega)]
      rw [this] at e
      exact hap _ (.inr ⟨i, hin, e⟩) h2
    · obtain rfl : i = n := by omega
      have : (vs ++ [v]).getD i svO = v := by rw [← hvl]; simp [List.getD_eq_getElem?_getD]
      rw [this] at e
      exact hv _ e h2
end
end Go.Proofs.YtaddclaadbjnlaaGreat

namespace Go.Proofs.YtaddclaadbjnlaaGreat
set_option maxRecDepth 100000
set_option linter.unusedVariables false
set_option linter.unusedSimpArgs false
open Go.RowKit
theorem getD_eq_at {xs : List Int} {k : Nat} (h : k < xs.length) : xs.getD k 0 = xs[k] := by simp [List.getD_eq_getElem?_getD, List.getElem?_eq_getElem h]
set_option maxHeartbeats 400000 in
theorem l01Same_any (a1 a2 : Option Addr) (n1 n2 c1 c2 : Nat) (xs ys : List Int) (w : World) (h1 : Row w a1 n1 xs) (h2 : Row w a2 n2 ys) (hm : n1 ≤ 9223372036854775807) :
    Calls Tryz.prog 110 #[.slice a1 n1 c1, .slice a2 n2 c2] w fun e w' => e = .returned (.bool (decide (xs = ys))) ∧ ∃ n, w' = w.drewN n := by
  have hl1 := h1.len
  have hl2 := h2.len
  by_cases hl : n1 = n2
  · subst hl
    have HL := Lib.hid hl1; have HL2 := Lib.hid hl2; clear hl1 hl2
    have hb : ((n1 : Int) != (n1 : Int)) = false := by simp
    go_enter Tryz.func110, Tryz.ntmps110
    go_wp2
    clear hb
    go_loopw [5] (fun i wr => ∃ k : Nat, k ≤ n1 ∧ i = .int .i64 k ∧ xs.take k = ys.take k ∧ ∃ n, wr = w.drewN n) (fun i _ => n1 - (intOf i).toNat)
    case atStart => exact ⟨0, Nat.zero_le _, rfl, by simp, 0, rfl⟩
    case round =>
      obtain ⟨k, hk, rfl, ht, n, rfl⟩ := hrel
      have HT := Lib.hid ht; clear ht
      by_cases hlt : k < n1
      · obtain ⟨b1, o1, rfl, g1⟩ := h1.at k hlt
        obtain ⟨b2, o2, rfl, g2⟩ := h2.at k hlt
        have hx : k < xs.length := by have := HL.out; omega
        have hy : k < ys.length := by have := HL2.out; omega
        clear h1 h2
        go_wp2
        go_quiet (fail)
        go_wp2
        · go_ret
          refine ⟨ret_bool ?_, n + nq, by rw [World.drewN_drewN]⟩
          rename_i hne
          simp only [Bool.false_eq, decide_eq_false_iff_not]
          rintro rfl
          simp at hne
        · go_roundw
          case rel =>
            rename_i hne
            refine ⟨k + 1, by omega, by go_num, take_eq_succ hx hy HT.out (by simpa using hne), n + nq, rfl⟩
          case measure => simp [intOf]; omega
      · obtain rfl : k = n1 := by omega
        go_wp2
        go_ret
        refine ⟨ret_bool ?_, _, rfl⟩
        have := HT.out
        rw [List.take_of_length_le (by have := HL.out; omega), List.take_of_length_le (by have := HL2.out; omega)] at this
        simp [this]
  · have hb : ((n1 : Int) != (n2 : Int)) = true := by simp; omega
    have hne : ¬ xs = ys := by rintro rfl; omega
    clear hl1 hl2
    go_enter Tryz.func110, Tryz.ntmps110
    go_wp2
    go_ret
    exact ⟨ret_bool (by simp [hne]), 0, rfl⟩
theorem l01Same_b (a1 a2 : Option Addr) (n1 n2 c1 c2 : Nat) (xs ys : List Int) (w : World) (h1 : Row w a1 n1 xs) (h2 : Row w a2 n2 ys) (hm : n1 ≤ 9223372036854775807) (b : Bool) (hb : decide (xs = ys) = b) :
    Calls Tryz.prog 110 #[.slice a1 n1 c1, .slice a2 n2 c2] w fun e w' => e = .returned (.bool b) ∧ Below w.heap.size w w' :=
  (l01Same_any a1 a2 n1 n2 c1 c2 xs ys w h1 h2 hm).mono fun e w' ⟨he, m, hw⟩ => ⟨he.trans (ret_bool hb), by rw [hw]; exact below_drewN (Below.refl _ _) m⟩
end Go.Proofs.YtaddclaadbjnlaaGreat

namespace Go.Proofs.YtaddclaadbjnlaaGreat
set_option maxRecDepth 100000
set_option linter.unusedVariables false
set_option linter.unusedSimpArgs false
open Go.RowKit
set_option maxHeartbeats 1000000 in
theorem l01Index_any (a : Option Addr) (n c : Nat) (xs : List Int) (y : Int) (w : World) (h1 : Row w a n xs) (hm : n ≤ 1000000000000) :
    Calls Tryz.prog 159 #[.slice a n c, .int .i64 y] w fun e w' => ∃ r : Int, e = .returned (.int .i64 r) ∧ decide (0 ≤ r) = decide (y ∈ xs) ∧ w = w' := by
  have hl := h1.len
  have HL := Lib.hid hl; clear hl
  go_enter Tryz.func159, Tryz.ntmps159
  go_wp2
  go_loop [5] (fun i => ∃ k : Nat, k ≤ n ∧ i = .int .i64 k ∧ Hid (y ∉ xs.take k)) (fun i => n - (intOf i).toNat)
  case atStart => exact ⟨0, Nat.zero_le _, rfl, by simp [Hid]⟩
  case round =>
    obtain ⟨k, hk, rfl, hno⟩ := hrel
    by_cases hlt : k < n
    · obtain ⟨b, off, rfl, g1⟩ := h1.at k hlt
      have hx : k < xs.length := by have := HL.out; omega
      rw [getD_eq_at hx] at g1
      obtain ⟨X, hX⟩ : ∃ X, X = xs[k] := ⟨_, rfl⟩
      rw [← hX] at g1
      by_cases he : X = y
      · have hmem : y ∈ xs := by rw [← he, hX]; exact List.getElem_mem hx
        have HMm := Lib.hid hmem
        clear hmem hX
        subst he
        go_wp2
        go_ret
        exact ⟨_, rfl, by have := HMm.out; simp [this], rfl⟩
      · have hno2 : y ∉ xs.take (k + 1) := by
          rw [List.take_succ_eq_append_getElem hx]
          simp only [List.mem_append, List.mem_singleton, not_or]
          exact ⟨hno, fun e => he (hX.trans e.symm)⟩
        have HN := Lib.hid hno2
        have hb : (X == y) = false := by simpa using he
        clear hno2 hX
        go_wp2
        go_round
        case rel => exact ⟨k + 1, by omega, by go_num, HN⟩
        case measure => simp [intOf]; omega
    · obtain rfl : k = n := by omega
      have hno' : y ∉ xs := by
        have h := hno
        rw [List.take_of_length_le (by have := HL.out; omega)] at h
        exact h
      have HN := Lib.hid hno'; clear hno'
      go_wp2
      go_ret
      exact ⟨-1, rfl, by have := HN.out; simp [this], rfl⟩
theorem l01Has_any (a : Option Addr) (n c : Nat) (xs : List Int) (y : Int) (w : World) (h1 : Row w a n xs) (hm : n ≤ 1000000000000) :
    Calls Tryz.prog 140 #[.slice a n c, .int .i64 y] w fun e w' => e = .returned (.bool (decide (y ∈ xs))) ∧ w = w' := by
  go_enter Tryz.func140, Tryz.ntmps140
  go_wp2_with fail
  refine (l01Index_any _ _ _ xs y _ h1 hm).mono ?_
  rintro e w' ⟨r, rfl, hr, rfl⟩
  have HR := Lib.hid hr; clear hr
  go_wp2
  go_ret
  exact ⟨ret_bool HR.out, rfl⟩
end Go.Proofs.YtaddclaadbjnlaaGreat

namespace Go.Proofs.YtaddclaadbjnlaaGreat
set_option maxRecDepth 100000
set_option linter.unusedVariables false
set_option linter.unusedSimpArgs false
open Go.RowKit
def grwL (n : Nat) : Nat → List Int → List (List Int)
  | 0, s => [s]
  | m + 1, s => (List.range n).flatMap fun x : Nat => if (x : Int) ∈ s then [] else grwL n m (s ++ [(x : Int)])
def grwP (n m : Nat) (s : List Int) (k : Nat) : List (List Int) := (List.range k).flatMap fun x : Nat => if (x : Int) ∈ s then [] else grwL n m (s ++ [(x : Int)])
theorem grwP_succ (n m : Nat) (s : List Int) (k : Nat) : grwP n m s (k + 1) = grwP n m s k ++ if (k : Int) ∈ s then [] else grwL n m (s ++ [(k : Int)]) := by
  simp [grwP, List.range_succ, List.flatMap_append]
theorem grwL_bd (n : Nat) : ∀ (m : Nat) (s : List Int), (grwL n m s).length ≤ n ^ m := by
  intro m
  induction m with
  | zero => intro s; simp [grwL]
  | succ m ih =>
    intro s
    have : ∀ k, (grwP n m s k).length ≤ k * n ^ m := by
      intro k
      induction k with
      | zero => simp [grwP]
      | succ k ihk =>
        rw [grwP_succ, List.length_append, Nat.add_mul, Nat.one_mul]
        split
        · simp; omega
        · have := ih (s ++ [(k : Int)]); omega
    have h := this n
    rw [Nat.pow_succ, Nat.mul_comm]
    exact h
theorem grwP_le (n m : Nat) (s : List Int) (k : Nat) : (grwP n m s k).length ≤ k * n ^ m := by
  induction k with
  | zero => simp [grwP]
  | succ k ihk =>
    rw [grwP_succ, List.length_append, Nat.add_mul, Nat.one_mul]
    split
    · simp; omega
    · have := grwL_bd n m (s ++ [(k : Int)]); omega
theorem pow_bd {n m : Nat} (hn : n ≤ 7) (hm : m ≤ 7) : n ^ m ≤ 1000000 := by
  have h1 : n ^ m ≤ 7 ^ m := Nat.pow_le_pow_left hn m
  have h2 : 7 ^ m ≤ 7 ^ 7 := Nat.pow_le_pow_right (by omega) hm
  have h3 : (7 : Nat) ^ 7 ≤ 1000000 := by decide
  omega
def GrT (E : Nat → Prop) (w : World) (lo : Nat) (a : Option Addr) (n : Nat) (vs : List SV) (yss : List (List Int)) (e : Ending) (w' : World) : Prop :=
  ∃ a' n' c' vs', e = .returned (.slice a' n' c') ∧ OwnT w' lo a' n' c' vs' yss ∧ Marked (TblS a n vs) w w' ∧ ∀ g, TblS a' n' vs' g → TblS a n vs g ∨ E g ∨ w.heap.size ≤ g
theorem Marked.refl (S : Nat → Prop) (w : World) : Marked S w w := ⟨rfl, rfl, rfl, Nat.le_refl _, fun _ _ _ => rfl⟩
theorem Marked.ofB {S : Nat → Prop} {w w' : World} (h : Below w.heap.size w w') : Marked S w w' := ⟨h.os, h.tape, h.output, h.size, fun k hk _ => h.block k hk⟩
theorem Marked.then {S T : Nat → Prop} {a b c : World} (h : Marked S a b) (k : Marked T b c) (hT : ∀ g, T g → S g ∨ a.heap.size ≤ g) : Marked S a c :=
  ⟨k.os.trans h.os, k.tape.trans h.tape, k.output.trans h.output, Nat.le_trans h.size k.size, fun i hi hs => (k.block i (Nat.lt_of_lt_of_le hi h.size) (fun ht => by rcases hT i ht with h' | h'; exact hs h'; omega)).trans (h.block i hi hs)⟩
theorem Marked.grown {w w' : World} {lo : Nat} {a : Option Addr} {n c : Nat} {vs : List SV} {xss : List (List Int)} (h : OwnT w lo a n c vs xss) (hg : w.grownBy w' (Value.slice a n c).ownBlock) : Marked (TblS a n vs) w w' :=
  ⟨hg.os, hg.tape, hg.output, hg.size, fun k hk hs => hg.block k hk (fun e => hs (h.ownBlk e.symm))⟩
theorem Marked.own {w w' : World} {S : Nat → Prop} {lo : Nat} {a : Option Addr} {n c : Nat} {xs : List Int} (h : Own w lo a n c xs) (hm : Marked S w w') (hS : ∀ g, a = some ⟨g, 0, none⟩ → ¬ S g) : Own w' lo a n c xs := h.uKeep hm hS
theorem Marked.lowb {w w' : World} {S : Nat → Prop} {lo : Nat} (hm : Marked S w w') (hS : ∀ g, S g → lo ≤ g) (hlo : lo ≤ w.heap.size) : Below lo w w' := ⟨hm.os, hm.tape, hm.output, hm.size, fun k hk => hm.block k (by omega) (fun h => by have := hS k h; omega)⟩
theorem TblS.snoc {a : Option Addr} {n : Nat} {vs : List SV} {v : SV} {g q : Nat} (hl : vs.length = n) (h : TblS (some ⟨g, 0, none⟩) (n + 1) (vs ++ [v]) q) : q = g ∨ v.1 = some ⟨q, 0, none⟩ ∨ TblS a n vs q := by
  rcases h with e | ⟨i, hi, e⟩
  · cases e; exact .inl rfl
  · by_cases hin : i < n
    · have : (vs ++ [v]).getD i svO = vs.getD i svO := by simp [List.getD_eq_getElem?_getD, List.getElem?_append_left (show i < vs.length by omega)]
      rw [this] at e
      exact .inr (.inr (.inr ⟨i, hin, e⟩))
    · obtain rfl : i = n := by omega
      have : (vs ++ [v]).getD i svO = v := by rw [← hl]; simp [List.getD_eq_getElem?_getD]
      rw [this] at e
      exact .inr (.inl e)
set_option maxHeartbeats 8000000 in
theorem l01Grow_any (N lo : Nat) (hN : N ≤ 7) : ∀ (m k : Nat) (s : List Int) (sa : Option Addr) (sc : Nat) (a : Option Addr) (n c : Nat) (vs : List SV) (xss : List (List Int)) (w : World),
    k + m = N → Own w lo sa k sc s → OwnT w lo a n c vs xss → (∀ g, sa = some ⟨g, 0, none⟩ → ¬ TblS a n vs g) → lo ≤ w.heap.size → n + N ^ m ≤ 1000000000 →
    Calls Tryz.prog 124 #[.int .i64 N, .slice sa k sc, .slice a n c] w (GrT (fun g => sa = some ⟨g, 0, none⟩) w lo a n vs (xss ++ grwL N m s)) := by
  intro m
  induction m with
  | zero =>
    intro k s sa sc a n c vs xss w hkm hs ht hap hlo hn
    obtain rfl : k = N := by omega
    have hq : ((k : Int) == (k : Int)) = true := by simp
    have h1 : Apart a sa := fun g hg hsa => hap g hsa (.inl hg)
    have h2 : ∀ j, j < n → Apart sa (vs.getD j svO).1 := fun j hj g hg hv => hap g hg (.inr ⟨j, hj, hv⟩)
    go_enter Tryz.func124, Tryz.ntmps124
    go_wp2_with (at_builtin; refine appT1g rfl rfl ht rfl hs h1 h2 rfl (by omega) hlo ?_; intro g' cc w8 hO hg8 hat8 hb8)
    go_ret
    refine ⟨_, _, _, _, rfl, hO, Marked.grown ht hg8, fun g hg => ?_⟩
    rcases TblS.snoc (a := a) ht.vlen hg with rfl | h | h
    · rcases hat8 with h | h
      · exact .inl (ht.ownBlk h)
      · exact .inr (.inr h)
    · exact .inr (.inl h)
    · exact .inl h
  | succ m ih =>
    intro k s sa sc a n c vs xss w hkm hs ht hap hlo hn
    have IH := Lib.hid ih
    have hq : ((k : Int) == (N : Int)) = false := by simp; omega
    have HP := Lib.hid (grwP_le N m s)
    have HS := Lib.hid (grwP_succ N m s)
    have HE : Hid (grwP N m s N = grwL N (m + 1) s) := Lib.hid rfl
    have hpw : N ^ (m + 1) = N ^ m * N := Nat.pow_succ ..
    have HN : Hid (∀ x, x < N → n + x * N ^ m + N ^ m ≤ 1000000000) := Lib.hid fun x hx => by
      have : (x + 1) * N ^ m ≤ N * N ^ m := Nat.mul_le_mul_right _ hx
      rw [Nat.add_mul, Nat.one_mul] at this
      rw [Nat.mul_comm] at hpw
      omega
    have HAP := Lib.hid hap
    have HL := Lib.hid ht.tbl.len
    have hlo2 := hlo
    clear ih hn hpw hap
    go_enter Tryz.func124, Tryz.ntmps124
    go_wp2
    go_loopw [2, 7] (fun l i wr => ∃ (x : Nat) (a' : Option Addr) (n' c' : Nat) (vs' : List SV), x ≤ N ∧ i = .int .i64 x ∧ l = .slice a' n' c' ∧ OwnT wr lo a' n' c' vs' (xss ++ grwP N m s x) ∧ Marked (TblS a n vs) w wr ∧ (∀ g, TblS a' n' vs' g → TblS a n vs g ∨ w.heap.size ≤ g)) (fun _ i _ => N - (intOf i).toNat)
    case atStart => exact ⟨0, a, n, c, vs, Nat.zero_le _, rfl, rfl, by simpa [grwP] using ht, Marked.refl _ _, fun g h => .inl h⟩
    case round =>
      obtain ⟨x, a', n', c', vs', hx, rfl, rfl, ht', hM, hsub⟩ := hrel
      have HSUB := Lib.hid hsub
      clear hsub
      by_cases hlt : x < N
      · have hs' := Marked.own hs hM (fun g hg => HAP.out g hg)
        have hwr := hM.size
        have hnl := ht'.tbl.len
        rw [List.length_append] at hnl
        have hn' : n' + N ^ m ≤ 1000000000 := by have := HN.out x hlt; have := HP.out x; have := HL.out; omega
        clear hnl
        have HT := HS.out x
        go_wp2_with fail
        refine (l01Has_any sa k sc s (x : Int) _ hs'.row (by omega)).mono ?_
        rintro e w2 ⟨rfl, rfl⟩
        by_cases hin : (x : Int) ∈ s
        · have hd : decide ((x : Int) ∈ s) = true := by simpa using hin
          rw [hd]
          rw [if_pos hin, List.append_nil] at HT
          have HTT := Lib.hid HT
          clear HT hin hd
          go_wp2
          go_roundw
          case rel => exact ⟨x + 1, a', n', c', vs', by omega, by go_num, rfl, by rw [HTT.out]; exact ht', hM, HSUB.out⟩
          case measure => simp [intOf]; omega
        · have hd : decide ((x : Int) ∈ s) = false := by simpa using hin
          rw [hd]
          rw [if_neg hin] at HT
          have HTT := Lib.hid HT
          clear HT hin hd
          go_wp2_with fail
          refine (l01Own_any sa k sc s _ hs'.row (by omega)).mono ?_
          rintro e w3 ⟨a5, c5, rfl, ho5, hb3⟩
          have hz3 := hb3.size
          go_wp2_with (at_builtin; refine app1 rfl rfl ho5 rfl rfl (by omega) hz3 ?_; intro g' cc w8 hO hg8 hs8 hb8)
          have hb38 := hb3.trans hb8
          have hgl := hO.lt
          refine (IH.out (k + 1) (s ++ [(x : Int)]) (some ⟨g', 0, none⟩) cc a' n' c' vs' _ w8 (by omega) (hO.mono (by omega)) (ht'.below hb38) (fun g e h => by cases e; have := ht'.uHi _ h; omega) (by have := hb38.size; omega) hn').mono ?_
          rintro e w9 ⟨a9, n9, c9, vs9, rfl, ht9, hM9, hsub9⟩
          go_wp2
          go_roundw
          case rel =>
            refine ⟨x + 1, a9, n9, c9, vs9, by omega, by go_num, rfl, by rw [HTT.out, ← List.append_assoc]; exact ht9, (hM.then (Marked.ofB (S := fun _ => False) hb38) (fun _ h => h.elim)).then hM9 HSUB.out, fun g hg => ?_⟩
            rcases hsub9 g hg with h | h | h
            · exact HSUB.out g h
            · cases h; exact .inr (by omega)
            · exact .inr (by have := hb38.size; omega)
          case measure => simp [intOf]; omega
      · obtain rfl : N = x := by omega
        go_wp2
        go_ret
        exact ⟨a', n', c', vs', rfl, by rw [← HE.out]; exact ht', hM, fun g hg => (HSUB.out g hg).elim .inl (fun h => .inr (.inr h))⟩
def prmL (n : Nat) : List (List Int) := grwL n n []
set_option maxHeartbeats 2000000 in
theorem l01Perms_any (N : Nat) (w : World) (hN : N ≤ 7) :
    Calls Tryz.prog 82 #[.int .i64 N] w fun e w' => ∃ a n c vs, e = .returned (.slice a n c) ∧ OwnT w' w.heap.size a n c vs (prmL N) ∧ Below w.heap.size w w' := by
  have hp := pow_bd hN hN
  go_enter Tryz.func82, Tryz.ntmps82
  go_wp2_with fail
  refine (l01Grow_any N w.heap.size hN N 0 [] (some ⟨w.heap.size, 0, none⟩) 0 (some ⟨w.heap.size + 1, 0, none⟩) 0 0 [] [] _ (by omega) ((Own.fresh w rfl).alloc _) ((OwnT.fresh (w.alloc (.cells #[] 2)) (b := w.heap.size + 1) (by simp)).mono (lo' := w.heap.size) (by simp)) (fun g hg h => ?_) (by simp; omega) (by omega)).mono ?_
  · cases hg
    rcases h with h | ⟨i, hi, _⟩
    · injection h with h; injection h with h; omega
    · omega
  · rintro e w1 ⟨a', n', c', vs', rfl, ht, hM, hsub⟩
    go_wp2
    go_ret
    refine ⟨a', n', c', vs', rfl, ht, ?_⟩
    have h1 : Below w.heap.size (((w.alloc (.cells #[] 2)).alloc (.cells #[] 41))) w1 := Marked.lowb hM (fun g hg => by
      rcases hg with h | ⟨i, hi, _⟩
      · injection h with h; injection h with h; omega
      · omega) (by simp; omega)
    exact (below_al (below_al (Below.refl _ _) _) _).trans h1
end Go.Proofs.YtaddclaadbjnlaaGreat
