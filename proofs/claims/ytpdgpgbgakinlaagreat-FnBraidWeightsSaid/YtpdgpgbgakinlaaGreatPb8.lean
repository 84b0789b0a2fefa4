/-
  Walks and plain laws of this seat, some texts in one.
  No condition but bounds on lengths.
-/
import Derived.Test.YtpdgpgbgakinlaaGreatPb3
import Derived.BigRegion
import Derived.Test.YtpdgpgbgakinlaaGreatPb6
import Derived.Test.YtpdgpgbgakinlaaGreatPb7
import Derived.Test.YtpdgpgbgakinlaaGreatPb1
import Derived.Deep.AppendLies
namespace Go.Proofs.YtpdgpgbgakinlaaGreat
set_option maxRecDepth 100000
set_option linter.unusedVariables false
set_option linter.unusedSimpArgs false
open Go.RowKit
def revK (xs : List Int) (k : Nat) : List Int := (List.range xs.length).map fun i => if i < k ∨ xs.length ≤ i + k then xs.getD (xs.length - 1 - i) 0 else xs.getD i 0
theorem revK_len (xs : List Int) (k : Nat) : (revK xs k).length = xs.length := by simp [revK]
theorem revK_getD (xs : List Int) (k i : Nat) (h : i < xs.length) : (revK xs k).getD i 0 = if i < k ∨ xs.length ≤ i + k then xs.getD (xs.length - 1 - i) 0 else xs.getD i 0 := by
  simp [revK, List.getD_eq_getElem?_getD, List.getElem?_map, h]
theorem getD_ext {xs ys : List Int} (hl : xs.length = ys.length) (h : ∀ i, i < xs.length → xs.getD i 0 = ys.getD i 0) : xs = ys := by
  refine List.ext_getElem hl fun i h1 h2 => ?_
  have := h i h1
  simpa [List.getD_eq_getElem?_getD, h1, h2] using this
theorem revK_zero (xs : List Int) : revK xs 0 = xs := by
  refine getD_ext (by rw [revK_len]) fun i hi => ?_
  rw [revK_len] at hi
  rw [revK_getD _ _ _ hi, if_neg (by omega)]
theorem revK_end (xs : List Int) (k : Nat) (h : xs.length ≤ 2 * k + 1) : revK xs k = xs.reverse := by
  refine getD_ext (by rw [revK_len, List.length_reverse]) fun i hi => ?_
  rw [revK_len] at hi
  rw [revK_getD _ _ _ hi]
  have e : xs.reverse.getD i 0 = xs.getD (xs.length - 1 - i) 0 := by
    simp [List.getD_eq_getElem?_getD, List.getElem?_reverse hi]
  rw [e]
  by_cases hc : i < k ∨ xs.length ≤ i + k
  · rw [if_pos hc]
  · rw [if_neg hc]
    have : xs.length - 1 - i = i := by omega
    rw [this]
theorem getD_set (xs : List Int) (j i : Nat) (x : Int) (h : i < xs.length) : (xs.set j x).getD i 0 = if i = j then x else xs.getD i 0 := by
  simp only [List.getD_eq_getElem?_getD, List.getElem?_set]
  by_cases e : i = j
  · subst e; simp [h]
  · rw [if_neg e, if_neg (fun h => e h.symm)]
theorem revK_step (xs : List Int) (k : Nat) (h : 2 * k + 1 < xs.length) :
    ((revK xs k).set k (xs.getD (xs.length - 1 - k) 0)).set (xs.length - 1 - k) (xs.getD k 0) = revK xs (k + 1) := by
  refine getD_ext (by simp [revK_len]) fun i hi => ?_
  simp [revK_len] at hi
  rw [getD_set _ _ _ _ (by simpa [revK_len] using hi), getD_set _ _ _ _ (by simpa [revK_len] using hi), revK_getD _ _ _ hi, revK_getD _ _ _ hi]
  by_cases h1 : i = xs.length - 1 - k
  · subst h1
    rw [if_pos rfl, if_pos (by omega)]
    congr 1; omega
  · rw [if_neg h1]
    by_cases h2 : i = k
    · subst h2
      rw [if_pos rfl, if_pos (by omega)]
    · rw [if_neg h2]
      by_cases h3 : i < k ∨ xs.length ≤ i + k
      · rw [if_pos h3, if_pos (by omega)]
      · rw [if_neg h3, if_neg (by omega)]
set_option maxHeartbeats 1000000 in
theorem reverse_any (a : Option Addr) (n c lo : Nat) (xs : List Int) (w : World) (h1 : Own w lo a n c xs) :
    Calls Tryz.prog 52 #[.slice a n c] w fun e w' => e = .returned (.tuple #[]) ∧ Own w' lo a n c xs.reverse ∧ Touch (fun g => a = some ⟨g, 0, none⟩) w w' := by
  have hcap := h1.cap
  have hl := h1.len
  have HL := Lib.hid hl; clear hl
  go_enter Tryz.func52, Tryz.ntmps52
  go_wp2
  go_loopw [2, 3] (fun i j wr => ∃ k : Nat, 2 * k ≤ n + 1 ∧ i = .int .i64 k ∧ j = .int .i64 ((n : Int) - 1 - k) ∧ Own wr lo a n c (revK xs k) ∧ Touch (fun g => a = some ⟨g, 0, none⟩) w wr) (fun i _ _ => n - (intOf i).toNat)
  case atStart => exact ⟨0, by omega, rfl, by simp, by rw [revK_zero]; exact h1, Touch.refl _ _⟩
  case round =>
    obtain ⟨k, hk, rfl, rfl, ho, ht⟩ := hrel
    by_cases hlt : 2 * k + 1 < n
    · obtain ⟨g, o, rfl, _⟩ := ho.row.at k (by omega)
      obtain ⟨rfl, hc, hf⟩ := ho.cells
      have hxl : xs.length = n := HL.out.symm
      obtain ⟨m, hm⟩ : ∃ m, m = n - 1 - k := ⟨_, rfl⟩
      have hkm : k < m := by omega
      have hmn : m < n := by omega
      have hck := hc k (by omega)
      have hcj := hc m (by omega)
      rw [revK_getD _ _ _ (by omega), if_neg (by omega)] at hck hcj
      have hfk := hf k
      have hfj := hf m
      have ej : (n : Int) - 1 - k = (m : Int) := by omega
      have es : ((revK xs k).set k (xs.getD m 0)).set m (xs.getD k 0) = revK xs (k + 1) := by
        have := revK_step xs k (by omega)
        rw [hxl, ← hm] at this; exact this
      obtain ⟨X, hX⟩ : ∃ X, X = xs.getD k 0 := ⟨_, rfl⟩
      obtain ⟨Y, hY⟩ : ∃ Y, Y = xs.getD m 0 := ⟨_, rfl⟩
      rw [← hX] at hck es
      rw [← hY] at hcj es
      clear hc hf
      have HS := Lib.hid es
      have HM := Lib.hid hm
      clear es hxl hX hY hm
      rw [ej]; clear ej
      go_wp2
      go_region
      all_goals go_wp2
      all_goals go_roundw
      case rel =>
        refine ⟨k + 1, by omega, by go_num, ?_, ?_, ?_⟩
        · have := HM.out
          exact congrArg (Value.int .i64) (by omega)
        · rw [← HS.out]
          exact (ho.set k Y).set m X
        · exact Touch.drewN (Touch.set (p := ⟨g, m, none⟩) (Touch.set (p := ⟨g, k, none⟩) ht rfl _) rfl _) 1
      case measure => simp [intOf]; omega
    · go_wp2
      go_end0
      refine ⟨rfl, ?_, ht⟩
      rw [revK_end _ _ (by have := HL.out; omega)] at ho
      exact ho
end Go.Proofs.YtpdgpgbgakinlaaGreat

namespace Go.Proofs.YtpdgpgbgakinlaaGreat
set_option maxRecDepth 100000
set_option linter.unusedVariables false
set_option linter.unusedSimpArgs false
theorem ltr_of {s x : Int} {n : Nat} (hn : s = n) (h : x ≠ 0 ∧ 1 - s ≤ x ∧ x ≤ s - 1) : Ltr n x := by
  refine ⟨h.1, ?_⟩
  unfold plN; split <;> omega
end Go.Proofs.YtpdgpgbgakinlaaGreat

namespace Go.Proofs.YtpdgpgbgakinlaaGreat
set_option maxRecDepth 100000
set_option linter.unusedVariables false
set_option linter.unusedSimpArgs false
open Go.RowKit
theorem OwnT.fresh (w : World) {b : Nat} (hb : b = w.heap.size) : OwnT (w.alloc (.cells #[] 27)) w.heap.size (some ⟨b, 0, none⟩) 0 0 [] [] :=
  ⟨rfl, rfl, ownsRow_mk rfl (by omega) (Loc.new _ hb _ _) (Nat.le_refl _) (by unfold maxLen; omega) rfl rfl, fun i h => absurd h (by omega), fun i h => absurd h (by omega), fun i j h => absurd h (by omega)⟩
theorem OwnT.snoc {w w' : World} {lo : Nat} {a : Option Addr} {n c : Nat} {vs : List SV} {xss : List (List Int)} {o : Obj} {g cap : Nat} {v : SV} {ys : List Int} (h : OwnT w lo a n c vs xss) (hv : Own w lo v.1 v.2.1 v.2.2 ys)
    (h1 : Apart a v.1) (h2 : ∀ j, j < n → Apart v.1 (vs.getD j svO).1) (ho : w'.ownsRow lo 27 1 (.slice (some ⟨g, 0, none⟩) (n + 1) cap) (n + 1) (vs.map sl ++ [sl v]))
    (hg : w.grownBy w' (Value.slice a n c).ownBlock) (hat : (Value.slice a n c).ownBlock = some g ∨ w.heap.size ≤ g) : OwnT w' lo (some ⟨g, 0, none⟩) (n + 1) cap (vs ++ [v]) (xss ++ [ys]) := by
  have hl := h.len
  have hvl := h.vlen
  have gl : ∀ i, i < n → (vs ++ [v]).getD i svO = vs.getD i svO := fun i hi => by simp [List.getD_eq_getElem?_getD, List.getElem?_append_left (show i < vs.length by omega)]
  have gn : (vs ++ [v]).getD n svO = v := by rw [← hvl]; simp [List.getD_eq_getElem?_getD]
  have xl : ∀ i, i < n → (xss ++ [ys]).getD i [] = xss.getD i [] := fun i hi => by simp [List.getD_eq_getElem?_getD, List.getElem?_append_left (show i < xss.length by omega)]
  have xn : (xss ++ [ys]).getD n [] = ys := by rw [hl]; simp [List.getD_eq_getElem?_getD]
  have hob : ∀ g', (Value.slice a n c).ownBlock = some g' → a = some ⟨g', 0, none⟩ := fun g' e => by
    rcases h.block with ⟨r1, _⟩ | ⟨g2, cur, r1, _⟩
    · subst r1; simp [Value.ownBlock] at e
    · subst r1; simp [Value.ownBlock] at e; subst e; rfl
  have keepR : ∀ i, i < n → Own w' lo (vs.getD i svO).1 (vs.getD i svO).2.1 (vs.getD i svO).2.2 (xss.getD i []) := fun i hi =>
    (h.row i hi).grown hg fun g' hg' e => h.ap i hi g' (hob g' e.symm) hg'
  have keepV : Own w' lo v.1 v.2.1 v.2.2 ys := hv.grown hg fun g' hg' e => h1 g' (hob g' e.symm) hg'
  have apg : ∀ b : Option Addr, (∀ g', b = some ⟨g', 0, none⟩ → g' < w.heap.size) → Apart a b → Apart (some ⟨g, 0, none⟩) b := fun b hb hab g' e hb' => by
    cases e
    rcases hat with hat | hat
    · exact hab g (hob g hat) hb'
    · have := hb g hb'; omega
  refine ⟨by simp [hl], by simp [hvl], by simpa using ho, fun i hi => ?_, fun i hi => ?_, fun i j hi hj hij => ?_⟩
  · by_cases e : i < n
    · rw [gl i e, xl i e]; exact keepR i e
    · obtain rfl : i = n := by omega
      rw [gn, xn]; exact keepV
  · by_cases e : i < n
    · rw [gl i e]; exact apg _ (h.row i e).hi (h.ap i e)
    · obtain rfl : i = n := by omega
      rw [gn]; exact apg _ hv.hi h1
  · by_cases e : i < n
    · by_cases e' : j < n
      · rw [gl i e, gl j e']; exact h.pw i j e e' hij
      · obtain rfl : j = n := by omega
        rw [gl i e, gn]; exact (h2 i e).symm
    · obtain rfl : i = n := by omega
      rw [gn, gl j (by omega)]; exact h2 j (by omega)
theorem appT1 {ops : Array Oper} {rest : List Oper} {o : Oper} {a : Act} {Q : Exit → Act → World → Prop} {w : World} (hgd : o.guard = none) {s x : Operand}
    (ho : o.op = .call { callee := .builtin .append, args := #[s, x], argTypes := #[24, 24] }) {lo : Nat} {ad : Option Addr} {n c : Nat} {vs : List SV} {xss : List (List Int)} (hown : OwnT w lo ad n c vs xss) (hs : a.eval s = .slice ad n c)
    {va : Option Addr} {vn vc : Nat} {ys : List Int} {t : TypeId} (hv : Own w lo va vn vc ys) (h1 : Apart ad va) (h2 : ∀ j, j < n → Apart va (vs.getD j svO).1) (hx : a.eval x = .slice (some ⟨w.heap.size, 0, none⟩) 1 1) (hlen : n + 1 ≤ 1000000000000) (hlo : lo ≤ w.heap.size)
    (h : ∀ g c' w', OwnT w' lo (some ⟨g, 0, none⟩) (n + 1) c' (vs ++ [(va, vn, vc)]) (xss ++ [ys]) → Below lo w w' → wpList Tryz.prog ops Q rest (a.put o.dst (.slice (some ⟨g, 0, none⟩) (n + 1) c')) w') :
    wpList Tryz.prog ops Q (o :: rest) a (w.alloc (.cells #[.slice va vn vc] t)) := by
  obtain ⟨i0, hi, hz0, hz1, hz2⟩ := info_parts info_rows
  refine wpList_plain hgd fun _ hK => ?_
  refine wp_append_lies _ s x 24 ho lo 27 i0 (.slice none 0 0) 1 24 und_rows hi hz0 hz1 hz2 rfl (by decide) _ n (vs.map sl) hs (hown.hdr.alloc _) ⟨w.heap.size, 0, none⟩ 1 1 [.slice va vn vc] hx rfl (cell_one_new _ _ _) ?_ (by omega) ?_ ?_ ?_ (w.heap.size + 1) (by simp) ?_
  · intro u hu; simp at hu; subst hu; rfl
  · unfold maxLen; omega
  · omega
  · simp; omega
  · intro g cap w' ho' hg hat hlt
    have hg' : w.grownBy w' (Value.slice ad n c).ownBlock := by
      have h1 := World.grownBy_alloc w (.cells #[.slice va vn vc] t) (Value.slice ad n c).ownBlock
      exact ⟨hg.os.trans h1.os, hg.tape.trans h1.tape, hg.output.trans h1.output, Nat.le_trans h1.size hg.size, fun k hk hn => (hg.block k (Nat.lt_of_lt_of_le hk h1.size) hn).trans (h1.block k hk hn)⟩
    refine hK _ _ (h g cap w' (hown.snoc (o := .cells #[] t) (v := (va, vn, vc)) hv h1 h2 ho' hg' ?_) ((Below.refl _ _).grown hg' hlo (fun k hk => (World.ownsRow.lt hown.hdr k hk).1)))
    rcases hat with hat | hat
    · exact .inl hat
    · exact .inr (by omega)
end Go.Proofs.YtpdgpgbgakinlaaGreat

namespace Go.Proofs.YtpdgpgbgakinlaaGreat
set_option maxRecDepth 100000
set_option linter.unusedVariables false
set_option linter.unusedSimpArgs false
open Go.RowKit
def RowS (a : Option Addr) (g : Nat) : Prop := a = some ⟨g, 0, none⟩
section
variable {w w' : World} {lo : Nat} {a a1 a2 : Option Addr} {n n1 n2 c c1 c2 : Nat} {xs : List Int}
theorem Own.uLo (h : Own w lo a n c xs) : ∀ g, RowS a g → lo ≤ g := h.lo
theorem Own.uHi (h : Own w lo a n c xs) : ∀ g, RowS a g → g < w.heap.size := h.hi
theorem Own.uKeep (h : Own w lo a n c xs) {S : Nat → Prop} (hm : Marked S w w') (hS : ∀ g, RowS a g → ¬ S g) : Own w' lo a n c xs := h.keep fun g hg hlt => hm.block g hlt (hS g hg)
end
theorem Marked.trans {S : Nat → Prop} {a b c : World} (h : Marked S a b) (k : Marked S b c) : Marked S a c :=
  ⟨k.os.trans h.os, k.tape.trans h.tape, k.output.trans h.output, Nat.le_trans h.size k.size, fun i hi hs => (k.block i (Nat.lt_of_lt_of_le hi h.size) hs).trans (h.block i hi hs)⟩
theorem Marked.mono {S T : Nat → Prop} {w w' : World} (h : Marked S w w') (hS : ∀ g, S g → T g) : Marked T w w' :=
  ⟨h.os, h.tape, h.output, h.size, fun k hk hs => h.block k hk (fun x => hs (hS k x))⟩
theorem Marked.alloc {S : Nat → Prop} {w w' : World} {o : Obj} (h : Marked S (w.alloc o) w') : Marked S w w' :=
  ⟨h.os, h.tape, h.output, Nat.le_trans (by simp) h.size, fun k hk hs => (h.block k (by simp; omega) hs).trans (Below.heap_alloc _ _ _ hk)⟩
end Go.Proofs.YtpdgpgbgakinlaaGreat

namespace Go.Proofs.YtpdgpgbgakinlaaGreat
set_option maxRecDepth 100000
set_option linter.unusedVariables false
set_option linter.unusedSimpArgs false
open Go.RowKit
/-! ### sz -/
/-! ### eq -/
/-! ### held -/
/-! ### mark -/
/-! ### to -/
theorem copyT_step (xss : List (List Int)) (n k : Nat) (hl : n = xss.length) (hx : k < xss.length) : (xss.take k ++ List.replicate (n - k) []).set k xss[k] = xss.take (k + 1) ++ List.replicate (n - (k + 1)) [] := by
  have e : (xss.take k).length = k := by rw [List.length_take]; omega
  rw [List.set_append_right _ _ (by omega), e, Nat.sub_self, List.take_succ_eq_append_getElem hx, List.append_assoc]
  congr 1
  obtain ⟨m, hm⟩ : ∃ m, n - k = m + 1 := ⟨n - k - 1, by omega⟩
  have hm' : n - (k + 1) = m := by omega
  rw [hm, hm', List.replicate_succ]
  rfl
/-! ### in one form: 'Below' -/
def RetT (w : World) (xss : List (List Int)) (code : Int) (e : Ending) (w' : World) : Prop :=
  ∃ a n c vs, e = .returned (.tuple #[.slice a n c, .int .i64 code]) ∧ OwnT w' w.heap.size a n c vs xss ∧ Below w.heap.size w w'
def RetR (w : World) (xs : List Int) (code : Int) (e : Ending) (w' : World) : Prop :=
  ∃ a n c, e = .returned (.tuple #[.slice a n c, .int .i64 code]) ∧ Own w' w.heap.size a n c xs ∧ Below w.heap.size w w'
def RetI (w : World) (x : Int) (code : Int) (e : Ending) (w' : World) : Prop := e = .returned (.tuple #[.int .i64 x, .int .i64 code]) ∧ Below w.heap.size w w'
def RetO (w : World) (x : Bool) (code : Int) (e : Ending) (w' : World) : Prop := e = .returned (.tuple #[.bool x, .int .i64 code]) ∧ Below w.heap.size w w'
end Go.Proofs.YtpdgpgbgakinlaaGreat

namespace Go.Proofs.YtpdgpgbgakinlaaGreat
set_option maxRecDepth 100000
set_option linter.unusedVariables false
set_option linter.unusedSimpArgs false
open Go.RowKit
def TblS (a : Option Addr) (n : Nat) (vs : List SV) (g : Nat) : Prop := a = some ⟨g, 0, none⟩ ∨ ∃ i, i < n ∧ (vs.getD i svO).1 = some ⟨g, 0, none⟩
section
variable {w w' : World} {lo : Nat} {a a1 a2 : Option Addr} {n n1 n2 c c1 c2 : Nat} {vs : List SV} {xss : List (List Int)}
theorem OwnT.uLo (h : OwnT w lo a n c vs xss) : ∀ g, TblS a n vs g → lo ≤ g := fun g hg => h.blo g hg
theorem OwnT.uHi (h : OwnT w lo a n c vs xss) : ∀ g, TblS a n vs g → g < w.heap.size := fun g hg => h.bhi g hg
theorem OwnT.uKeep (h : OwnT w lo a n c vs xss) {S : Nat → Prop} (hm : Marked S w w') (hS : ∀ g, TblS a n vs g → ¬ S g) : OwnT w' lo a n c vs xss := h.keep fun g hg hlt => hm.block g hlt (hS g hg)
end
end Go.Proofs.YtpdgpgbgakinlaaGreat

namespace Go.Proofs.YtpdgpgbgakinlaaGreat
set_option maxRecDepth 100000
set_option linter.unusedVariables false
set_option linter.unusedSimpArgs false
open Go.RowKit
theorem wp_appT1 {o : Oper} {a : Act} {K : Act → World → Prop} {Q : Exit → Act → World → Prop} {w : World} {s x : Operand}
    (ho : o.op = .call { callee := .builtin .append, args := #[s, x], argTypes := #[24, 24] }) {lo : Nat} {ad : Option Addr} {n c : Nat} {vs : List SV} {xss : List (List Int)} (hown : OwnT w lo ad n c vs xss) (hs : a.eval s = .slice ad n c)
    {va : Option Addr} {vn vc : Nat} {ys : List Int} {t : TypeId} (hv : Own w lo va vn vc ys) (h1 : Apart ad va) (h2 : ∀ j, j < n → Apart va (vs.getD j svO).1) (hx : a.eval x = .slice (some ⟨w.heap.size, 0, none⟩) 1 1) (hlen : n + 1 ≤ 1000000000000) (hlo : lo ≤ w.heap.size)
    (h : ∀ g c' w', OwnT w' lo (some ⟨g, 0, none⟩) (n + 1) c' (vs ++ [(va, vn, vc)]) (xss ++ [ys]) → w.grownBy w' (Value.slice ad n c).ownBlock → ((Value.slice ad n c).ownBlock = some g ∨ w.heap.size ≤ g) → Below lo w w' → K (a.put o.dst (.slice (some ⟨g, 0, none⟩) (n + 1) c')) w') :
    Oper.wp Tryz.prog o a (w.alloc (.cells #[.slice va vn vc] t)) K Q := by
  obtain ⟨i0, hi, hz0, hz1, hz2⟩ := info_parts info_rows
  refine wp_append_lies _ s x 24 ho lo 27 i0 (.slice none 0 0) 1 24 und_rows hi hz0 hz1 hz2 rfl (by decide) _ n (vs.map sl) hs (hown.hdr.alloc _) ⟨w.heap.size, 0, none⟩ 1 1 [.slice va vn vc] hx rfl (cell_one_new _ _ _) ?_ (by omega) ?_ ?_ ?_ (w.heap.size + 1) (by simp) ?_
  · intro u hu; simp at hu; subst hu; rfl
  · unfold maxLen; omega
  · omega
  · simp; omega
  · intro g cap w' ho' hg hat hlt
    have hg' : w.grownBy w' (Value.slice ad n c).ownBlock := by
      have h1 := World.grownBy_alloc w (.cells #[.slice va vn vc] t) (Value.slice ad n c).ownBlock
      exact ⟨hg.os.trans h1.os, hg.tape.trans h1.tape, hg.output.trans h1.output, Nat.le_trans h1.size hg.size, fun k hk hn => (hg.block k (Nat.lt_of_lt_of_le hk h1.size) hn).trans (h1.block k hk hn)⟩
    have hat' : (Value.slice ad n c).ownBlock = some g ∨ w.heap.size ≤ g := by
      rcases hat with hat | hat
      · exact .inl hat
      · exact .inr (by omega)
    exact h g cap w' (hown.snoc (o := .cells #[] t) (v := (va, vn, vc)) hv h1 h2 ho' hg' hat') hg' hat' ((Below.refl _ _).grown hg' hlo (fun k hk => (World.ownsRow.lt hown.hdr k hk).1))
theorem appT1g {ops : Array Oper} {rest : List Oper} {o : Oper} {a : Act} {Q : Exit → Act → World → Prop} {w : World} (hgd : o.guard = none) {s x : Operand}
    (ho : o.op = .call { callee := .builtin .append, args := #[s, x], argTypes := #[24, 24] }) {lo : Nat} {ad : Option Addr} {n c : Nat} {vs : List SV} {xss : List (List Int)} (hown : OwnT w lo ad n c vs xss) (hs : a.eval s = .slice ad n c)
    {va : Option Addr} {vn vc : Nat} {ys : List Int} {t : TypeId} (hv : Own w lo va vn vc ys) (h1 : Apart ad va) (h2 : ∀ j, j < n → Apart va (vs.getD j svO).1) (hx : a.eval x = .slice (some ⟨w.heap.size, 0, none⟩) 1 1) (hlen : n + 1 ≤ 1000000000000) (hlo : lo ≤ w.heap.size)
    (h : ∀ g c' w', OwnT w' lo (some ⟨g, 0, none⟩) (n + 1) c' (vs ++ [(va, vn, vc)]) (xss ++ [ys]) → w.grownBy w' (Value.slice ad n c).ownBlock → ((Value.slice ad n c).ownBlock = some g ∨ w.heap.size ≤ g) → Below lo w w' → wpList Tryz.prog ops Q rest (a.put o.dst (.slice (some ⟨g, 0, none⟩) (n + 1) c')) w') :
    wpList Tryz.prog ops Q (o :: rest) a (w.alloc (.cells #[.slice va vn vc] t)) :=
  wpList_plain hgd fun _ hK => wp_appT1 ho hown hs hv h1 h2 hx hlen hlo fun g c' w' a b c d => hK _ _ (h g c' w' a b c d)
theorem step_appT1n {ops : Array Oper} {o : Oper} {a : Act} {K : Act → World → Prop} {Q : Exit → Act → World → Prop} {E : Prop} {w : World} (hgd : o.guard = none) {s x : Operand}
    (ho : o.op = .call { callee := .builtin .append, args := #[s, x], argTypes := #[24, 24] }) {lo : Nat} {ad : Option Addr} {n c : Nat} {vs : List SV} {xss : List (List Int)} (hown : OwnT w lo ad n c vs xss) (hs : a.eval s = .slice ad n c)
    {va : Option Addr} {vn vc : Nat} {ys : List Int} {t : TypeId} (hv : Own w lo va vn vc ys) (h1 : Apart ad va) (h2 : ∀ j, j < n → Apart va (vs.getD j svO).1) (hx : a.eval x = .slice (some ⟨w.heap.size, 0, none⟩) 1 1) (hlen : n + 1 ≤ 1000000000000) (hlo : lo ≤ w.heap.size)
    (h : ∀ g c' w', OwnT w' lo (some ⟨g, 0, none⟩) (n + 1) c' (vs ++ [(va, vn, vc)]) (xss ++ [ys]) → w.grownBy w' (Value.slice ad n c).ownBlock → ((Value.slice ad n c).ownBlock = some g ∨ w.heap.size ≤ g) → Below lo w w' → K (a.put o.dst (.slice (some ⟨g, 0, none⟩) (n + 1) c')) w') :
    if Region.wanted o (yielded ops a.tmps) = true then Oper.wp Tryz.prog o a (w.alloc (.cells #[.slice va vn vc] t)) K Q else E := by
  have hw : Region.wanted o (yielded ops a.tmps) = true := by simp [Region.wanted, hgd]
  rw [if_pos hw]
  exact wp_appT1 ho hown hs hv h1 h2 hx hlen hlo h
/-! ### two slices of slices -/
def ApT (a : Option Addr) (n : Nat) (vs : List SV) (a' : Option Addr) (n' : Nat) (vs' : List SV) : Prop := ∀ g, TblS a n vs g → ¬ TblS a' n' vs' g
theorem ApT.symm {a a' : Option Addr} {n n' : Nat} {vs vs' : List SV} (h : ApT a n vs a' n' vs') : ApT a' n' vs' a n vs := fun g h1 h2 => h g h2 h1
section
variable {w w' : World} {lo : Nat} {a a' : Option Addr} {n n' c c' : Nat} {vs vs' : List SV} {xss yss : List (List Int)}
theorem OwnT.ownBlk (h : OwnT w lo a n c vs xss) {g : Nat} (e : (Value.slice a n c).ownBlock = some g) : TblS a n vs g := by
  rcases h.block with ⟨r1, _⟩ | ⟨g2, cur, r1, _⟩
  · subst r1; simp [Value.ownBlock] at e
  · subst r1; simp [Value.ownBlock] at e; subst e; exact .inl rfl
theorem OwnT.other (h : OwnT w lo a n c vs xss) (h' : OwnT w lo a' n' c' vs' yss) (hap : ApT a n vs a' n' vs') (hg : w.grownBy w' (Value.slice a n c).ownBlock) : OwnT w' lo a' n' c' vs' yss :=
  h'.keep fun g hg' hlt => hg.block g hlt fun e => hap g (h.ownBlk e.symm) hg'
theorem ApT.snoc (h : OwnT w lo a n c vs xss) (h' : OwnT w lo a' n' c' vs' yss) (hap : ApT a n vs a' n' vs') {g : Nat} {v : SV} (hvl : vs.length = n) (hat : (Value.slice a n c).ownBlock = some g ∨ w.heap.size ≤ g) (hv : ∀ q, v.1 = some ⟨q, 0, none⟩ → ¬ TblS a' n' vs' q) : ApT (some ⟨g, 0, none⟩) (n + 1) (vs ++ [v]) a' n' vs' := by
  intro q hq h2
  rcases hq with e | ⟨i, hi, e⟩
  · cases e
    rcases hat with hat | hat
    · exact hap _ (h.ownBlk hat) h2
    · have := h'.uHi _ h2; omega
  · by_cases hin : i < n
    · have : (vs ++ [v]).getD i svO = vs.getD i svO := by simp [List.getD_eq_getElem?_getD, List.getElem?_append_left (show i < vs.length by omega)]
      rw [this] at e
      exact hap _ (.inr ⟨i, hin, e⟩) h2
    · obtain rfl : i = n := by omega
      have : (vs ++ [v]).getD i svO = v := by rw [← hvl]; simp [List.getD_eq_getElem?_getD]
      rw [this] at e
      exact hv _ e h2
end
end Go.Proofs.YtpdgpgbgakinlaaGreat

namespace Go.Proofs.YtpdgpgbgakinlaaGreat
set_option maxRecDepth 100000
set_option linter.unusedVariables false
set_option linter.unusedSimpArgs false
open Go.RowKit
theorem getD_eq_at {xs : List Int} {k : Nat} (h : k < xs.length) : xs.getD k 0 = xs[k] := by simp [List.getD_eq_getElem?_getD, List.getElem?_eq_getElem h]
set_option maxHeartbeats 400000 in
theorem l01Same_any (a1 a2 : Option Addr) (n1 n2 c1 c2 : Nat) (xs ys : List Int) (w : World) (h1 : Row w a1 n1 xs) (h2 : Row w a2 n2 ys) (hm : n1 ≤ 9223372036854775807) :
    Calls Tryz.prog 137 #[.slice a1 n1 c1, .slice a2 n2 c2] w fun e w' => e = .returned (.bool (decide (xs = ys))) ∧ ∃ n, w' = w.drewN n := by
  have hl1 := h1.len
  have hl2 := h2.len
  by_cases hl : n1 = n2
  · subst hl
    have HL := Lib.hid hl1; have HL2 := Lib.hid hl2; clear hl1 hl2
    have hb : ((n1 : Int) != (n1 : Int)) = false := by simp
    go_enter Tryz.func137, Tryz.ntmps137
    go_wp2
    clear hb
    go_loopw [5] (fun i wr => ∃ k : Nat, k ≤ n1 ∧ i = .int .i64 k ∧ xs.take k = ys.take k ∧ ∃ n, wr = w.drewN n) (fun i _ => n1 - (intOf i).toNat)
    case atStart => exact ⟨0, Nat.zero_le _, rfl, by simp, 0, rfl⟩
    case round =>
      obtain ⟨k, hk, rfl, ht, n, rfl⟩ := hrel
      have HT := Lib.hid ht; clear ht
      by_cases hlt : k < n1
      · obtain ⟨b1, o1, rfl, g1⟩ := h1.at k hlt
        obtain ⟨b2, o2, rfl, g2⟩ := h2.at k hlt
        have hx : k < xs.length := by have := HL.out; omega
        have hy : k < ys.length := by have := HL2.out; omega
        clear h1 h2
        go_wp2
        go_quiet (fail)
        go_wp2
        · go_ret
          refine ⟨ret_bool ?_, n + nq, by rw [World.drewN_drewN]⟩
          rename_i hne
          simp only [Bool.false_eq, decide_eq_false_iff_not]
          rintro rfl
          simp at hne
        · go_roundw
          case rel =>
            rename_i hne
            refine ⟨k + 1, by omega, by go_num, take_eq_succ hx hy HT.out (by simpa using hne), n + nq, rfl⟩
          case measure => simp [intOf]; omega
      · obtain rfl : k = n1 := by omega
        go_wp2
        go_ret
        refine ⟨ret_bool ?_, _, rfl⟩
        have := HT.out
        rw [List.take_of_length_le (by have := HL.out; omega), List.take_of_length_le (by have := HL2.out; omega)] at this
        simp [this]
  · have hb : ((n1 : Int) != (n2 : Int)) = true := by simp; omega
    have hne : ¬ xs = ys := by rintro rfl; omega
    clear hl1 hl2
    go_enter Tryz.func137, Tryz.ntmps137
    go_wp2
    go_ret
    exact ⟨ret_bool (by simp [hne]), 0, rfl⟩
theorem l01Same_b (a1 a2 : Option Addr) (n1 n2 c1 c2 : Nat) (xs ys : List Int) (w : World) (h1 : Row w a1 n1 xs) (h2 : Row w a2 n2 ys) (hm : n1 ≤ 9223372036854775807) (b : Bool) (hb : decide (xs = ys) = b) :
    Calls Tryz.prog 137 #[.slice a1 n1 c1, .slice a2 n2 c2] w fun e w' => e = .returned (.bool b) ∧ Below w.heap.size w w' :=
  (l01Same_any a1 a2 n1 n2 c1 c2 xs ys w h1 h2 hm).mono fun e w' ⟨he, m, hw⟩ => ⟨he.trans (ret_bool hb), by rw [hw]; exact below_drewN (Below.refl _ _) m⟩
end Go.Proofs.YtpdgpgbgakinlaaGreat

namespace Go.Proofs.YtpdgpgbgakinlaaGreat
set_option maxRecDepth 100000
set_option linter.unusedVariables false
set_option linter.unusedSimpArgs false
open Go.RowKit
set_option maxHeartbeats 1000000 in
theorem l01Index_any (a : Option Addr) (n c : Nat) (xs : List Int) (y : Int) (w : World) (h1 : Row w a n xs) (hm : n ≤ 1000000000000) :
    Calls Tryz.prog 170 #[.slice a n c, .int .i64 y] w fun e w' => ∃ r : Int, e = .returned (.int .i64 r) ∧ decide (0 ≤ r) = decide (y ∈ xs) ∧ w = w' := by
  have hl := h1.len
  have HL := Lib.hid hl; clear hl
  go_enter Tryz.func170, Tryz.ntmps170
  go_wp2
  go_loop [5] (fun i => ∃ k : Nat, k ≤ n ∧ i = .int .i64 k ∧ Hid (y ∉ xs.take k)) (fun i => n - (intOf i).toNat)
  case atStart => exact ⟨0, Nat.zero_le _, rfl, by simp [Hid]⟩
  case round =>
    obtain ⟨k, hk, rfl, hno⟩ := hrel
    by_cases hlt : k < n
    · obtain ⟨b, off, rfl, g1⟩ := h1.at k hlt
      have hx : k < xs.length := by have := HL.out; omega
      rw [getD_eq_at hx] at g1
      obtain ⟨X, hX⟩ : ∃ X, X = xs[k] := ⟨_, rfl⟩
      rw [← hX] at g1
      by_cases he : X = y
      · have hmem : y ∈ xs := by rw [← he, hX]; exact List.getElem_mem hx
        have HMm := Lib.hid hmem
        clear hmem hX
        subst he
        go_wp2
        go_ret
        exact ⟨_, rfl, by have := HMm.out; simp [this], rfl⟩
      · have hno2 : y ∉ xs.take (k + 1) := by
          rw [List.take_succ_eq_append_getElem hx]
          simp only [List.mem_append, List.mem_singleton, not_or]
          exact ⟨hno, fun e => he (hX.trans e.symm)⟩
        have HN := Lib.hid hno2
        have hb : (X == y) = false := by simpa using he
        clear hno2 hX
        go_wp2
        go_round
        case rel => exact ⟨k + 1, by omega, by go_num, HN⟩
        case measure => simp [intOf]; omega
    · obtain rfl : k = n := by omega
      have hno' : y ∉ xs := by
        have h := hno
        rw [List.take_of_length_le (by have := HL.out; omega)] at h
        exact h
      have HN := Lib.hid hno'; clear hno'
      go_wp2
      go_ret
      exact ⟨-1, rfl, by have := HN.out; simp [this], rfl⟩
theorem l01Has_any (a : Option Addr) (n c : Nat) (xs : List Int) (y : Int) (w : World) (h1 : Row w a n xs) (hm : n ≤ 1000000000000) :
    Calls Tryz.prog 152 #[.slice a n c, .int .i64 y] w fun e w' => e = .returned (.bool (decide (y ∈ xs))) ∧ w = w' := by
  go_enter Tryz.func152, Tryz.ntmps152
  go_wp2_with fail
  refine (l01Index_any _ _ _ xs y _ h1 hm).mono ?_
  rintro e w' ⟨r, rfl, hr, rfl⟩
  have HR := Lib.hid hr; clear hr
  go_wp2
  go_ret
  exact ⟨ret_bool HR.out, rfl⟩
end Go.Proofs.YtpdgpgbgakinlaaGreat
