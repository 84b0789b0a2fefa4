/-
  Slices of cycle sets that the call owns, with all that lies below; append of one.
  No condition but bounds.
-/
import Derived.Test.YthgafpeblpnolaaBase
namespace Go.Proofs.Ythgafpeblpnolaa
set_option maxRecDepth 100000
set_option linter.unusedVariables false
set_option linter.unusedSimpArgs false
open Go.RowKit

theorem info_Cy : (Try.prog.info? 43).map (fun i => (i.zero, i.size, i.bytes)) = some (some (.agg #[.slice none 0 0]), 1, 24) := by kernel_rfl
theorem und_Cy : Try.prog.underlying 31 = some (.slice 43) := by kernel_rfl
structure OwnCy (w : World) (lo : Nat) (a : Option Addr) (n c : Nat) (us : List TV) (ts : List (List (List Int))) : Prop where
  len : n = ts.length
  ulen : us.length = n
  hdr : w.ownsRow lo 43 1 (.slice a n c) n (us.map slT)
  tab : ∀ i, i < n → OwnV w lo (us.getD i tvO) (ts.getD i [])
  ap : ∀ i, i < n → ∀ g, a = some ⟨g, 0, none⟩ → ¬ TvS (us.getD i tvO) g
  pw : ∀ i j, i < n → j < n → i ≠ j → ∀ g, TvS (us.getD i tvO) g → ¬ TvS (us.getD j tvO) g
section
variable {w w' : World} {lo : Nat} {a : Option Addr} {n c : Nat} {us : List TV} {ts : List (List (List Int))}
theorem OwnCy.nil (w : World) (lo : Nat) : OwnCy w lo none 0 0 [] [] :=
  ⟨rfl, rfl, World.ownsRow_nil w lo _ 1, fun i h => absurd h (by omega), fun i h => absurd h (by omega), fun i j h => absurd h (by omega)⟩
theorem OwnCy.block (h : OwnCy w lo a n c us ts) : (a = none ∧ n = 0 ∧ c = 0) ∨ ∃ g cur, a = some ⟨g, 0, none⟩ ∧ lo ≤ g ∧ Loc w g cur 43 ∧ n ≤ c ∧ c ≤ maxLen ∧ cur.size = c ∧ cur.toList.take n = us.map slT := by
  rcases h.hdr.2 with ⟨h1, h2⟩ | ⟨g, cap, cur, h1, h2, h3, h4, h5, h6, h7⟩
  · cases h1; exact .inl ⟨rfl, rfl, rfl⟩
  · cases h1; exact .inr ⟨g, cur, rfl, h2, h3, h4, h5, by simpa using h6, by simpa using h7⟩
theorem ownsRowCy_mk {w : World} {lo g n c : Nat} {us : List TV} {cur : Array Value} (hn : us.length = n) (h1 : lo ≤ g) (h2 : Loc w g cur 43) (h3 : n ≤ c) (h4 : c ≤ maxLen) (h5 : cur.size = c) (h6 : cur.toList.take n = us.map slT) :
    w.ownsRow lo 43 1 (.slice (some ⟨g, 0, none⟩) n c) n (us.map slT) :=
  ⟨by simp [hn], .inr ⟨g, c, cur, rfl, h1, h2, h3, h4, by simpa using h5, by simpa using h6⟩⟩
theorem OwnCy.high (h : OwnCy w lo a n c us ts) : ∀ g, a = some ⟨g, 0, none⟩ → g < w.heap.size := by
  intro g hg
  rcases h.block with ⟨h1, _⟩ | ⟨g', cur, h1, h2, h3, _⟩
  · rw [h1] at hg; cases hg
  · rw [h1] at hg; cases hg; exact h3.lt
theorem OwnCy.low (h : OwnCy w lo a n c us ts) : ∀ g, a = some ⟨g, 0, none⟩ → lo ≤ g := by
  intro g hg
  rcases h.block with ⟨h1, _⟩ | ⟨g', cur, h1, h2, h3, _⟩
  · rw [h1] at hg; cases hg
  · rw [h1] at hg; cases hg; exact h2
theorem OwnCy.uLo (h : OwnCy w lo a n c us ts) : ∀ g, TTS a n us g → lo ≤ g := fun g hg => by
  rcases hg with hg | ⟨i, hi, hg⟩
  · exact h.low g hg
  · exact (h.tab i hi).uLo g hg
theorem OwnCy.uHi (h : OwnCy w lo a n c us ts) : ∀ g, TTS a n us g → g < w.heap.size := fun g hg => by
  rcases hg with hg | ⟨i, hi, hg⟩
  · exact h.high g hg
  · exact (h.tab i hi).uHi g hg
theorem OwnCy.keep (h : OwnCy w lo a n c us ts) (hk : ∀ g, TTS a n us g → g < w.heap.size → w'.heap[g]? = w.heap[g]?) : OwnCy w' lo a n c us ts := by
  refine ⟨h.len, h.ulen, ?_, fun i hi => OwnT.keep (h.tab i hi) fun g hg hlt => hk g (.inr ⟨i, hi, hg⟩) hlt, h.ap, h.pw⟩
  rcases h.block with ⟨h1, h2, h3⟩ | ⟨g, cur, h1, h2, h3, h4, h5, h6, h7⟩
  · subst h1 h2 h3
    have : us = [] := List.eq_nil_of_length_eq_zero h.ulen
    subst this; exact World.ownsRow_nil _ _ _ _
  · subst h1
    exact ownsRowCy_mk h.ulen h2 ((hk g (.inl rfl) h3.lt).trans h3) h4 h5 h6 h7
theorem OwnCy.below (h : OwnCy w lo a n c us ts) (hb : Below w.heap.size w w') : OwnCy w' lo a n c us ts := h.keep fun g _ hlt => hb.block g hlt
theorem OwnCy.alloc (h : OwnCy w lo a n c us ts) (o : Obj) : OwnCy (w.alloc o) lo a n c us ts := h.below ((Below.refl _ _).alloc (Nat.le_refl _) o)
theorem OwnCy.drewN (h : OwnCy w lo a n c us ts) (k : Nat) : OwnCy (w.drewN k) lo a n c us ts := h.keep fun _ _ _ => rfl
theorem OwnCy.mono {lo' : Nat} (h : OwnCy w lo a n c us ts) (hl : lo' ≤ lo) : OwnCy w lo' a n c us ts := by
  refine ⟨h.len, h.ulen, ?_, fun i hi => (h.tab i hi).mono hl, h.ap, h.pw⟩
  rcases h.block with ⟨h1, h2, h3⟩ | ⟨g, cur, h1, h2, h3, h4, h5, h6, h7⟩
  · subst h1 h2 h3
    have : us = [] := List.eq_nil_of_length_eq_zero h.ulen
    subst this; exact World.ownsRow_nil _ _ _ _
  · subst h1; exact ownsRowCy_mk h.ulen (Nat.le_trans hl h2) h3 h4 h5 h6 h7
theorem OwnCy.setlo (h : OwnCy w lo a n c us ts) {p : Addr} (hp : p.block < lo) (u : Value) : OwnCy (w.setCell p u) lo a n c us ts :=
  h.keep fun g hg _ => Below.heap_setCell _ _ _ _ (by have := h.uLo g hg; omega)
theorem OwnCy.marked (h : OwnCy w lo a n c us ts) {S : Nat → Prop} (hm : Marked S w w') (hS : ∀ g, TTS a n us g → ¬ S g) : OwnCy w' lo a n c us ts := h.keep fun g hg hlt => hm.block g hlt (hS g hg)
theorem OwnCy.cap (h : OwnCy w lo a n c us ts) : n ≤ c ∧ c ≤ 9223372036854775807 := by
  rcases h.block with ⟨_, h1, h2⟩ | ⟨g', cur, h1, h2, h3, h4, h5, _⟩
  · omega
  · unfold maxLen at h5; omega
theorem OwnCy.cells (h : OwnCy w lo a n c us ts) (hn : 0 < n) : ∃ g, a = some ⟨g, 0, none⟩ ∧ g < w.heap.size ∧ (∀ i, i < n → w.cell? ⟨g, i, none⟩ = some (slT (us.getD i tvO))) ∧ ∀ i, w.frozen? ⟨g, i, none⟩ = false := by
  rcases h.block with ⟨h1, h2, h3⟩ | ⟨g, cur, h1, h2, h3, h4, h5, h6, h7⟩
  · omega
  · refine ⟨g, h1, h3.lt, fun i hi => h3.cell i ?_, fun i => h3.free i⟩
    have hx : (cur.toList.take n)[i]? = (us.map slT)[i]? := by rw [h7]
    have hxi : i < us.length := by have := h.ulen; omega
    rw [List.getElem?_take, if_pos hi] at hx
    simp [List.getElem?_eq_getElem hxi] at hx
    simp [List.getD_eq_getElem?_getD, List.getElem?_eq_getElem hxi, hx]
theorem OwnCy.ownBlk (h : OwnCy w lo a n c us ts) {g : Nat} (e : (Value.slice a n c).ownBlock = some g) : a = some ⟨g, 0, none⟩ := by
  rcases h.block with ⟨r1, _⟩ | ⟨g2, cur, r1, _⟩
  · subst r1; simp [Value.ownBlock] at e
  · subst r1; simp [Value.ownBlock] at e; subst e; rfl
theorem OwnCy.snoc {o : Obj} {g cap : Nat} {u : TV} {t : List (List Int)} (h : OwnCy w lo a n c us ts) (hv : OwnV w lo u t) (h1 : ∀ q, TvS u q → ¬ TTS a n us q)
    (ho : w'.ownsRow lo 43 1 (.slice (some ⟨g, 0, none⟩) (n + 1) cap) (n + 1) (us.map slT ++ [slT u]))
    (hg : w.grownBy w' (Value.slice a n c).ownBlock) (hat : (Value.slice a n c).ownBlock = some g ∨ w.heap.size ≤ g) : OwnCy w' lo (some ⟨g, 0, none⟩) (n + 1) cap (us ++ [u]) (ts ++ [t]) := by
  have hl := h.len
  have hul := h.ulen
  have gl : ∀ i, i < n → (us ++ [u]).getD i tvO = us.getD i tvO := fun i hi => by simp [List.getD_eq_getElem?_getD, List.getElem?_append_left (show i < us.length by omega)]
  have gn : (us ++ [u]).getD n tvO = u := by rw [← hul]; simp [List.getD_eq_getElem?_getD]
  have xl : ∀ i, i < n → (ts ++ [t]).getD i [] = ts.getD i [] := fun i hi => by simp [List.getD_eq_getElem?_getD, List.getElem?_append_left (show i < ts.length by omega)]
  have xn : (ts ++ [t]).getD n [] = t := by rw [hl]; simp [List.getD_eq_getElem?_getD]
  have keepR : ∀ i, i < n → OwnV w' lo (us.getD i tvO) (ts.getD i []) := fun i hi => OwnT.keep (h.tab i hi) fun q hq hlt => hg.block q hlt fun e => h.ap i hi q (h.ownBlk e.symm) hq
  have keepV : OwnV w' lo u t := OwnT.keep hv fun q hq hlt => hg.block q hlt fun e => h1 q hq (.inl (h.ownBlk e.symm))
  refine ⟨by simp [hl], by simp [hul], by simpa using ho, fun i hi => ?_, fun i hi q hq hs => ?_, fun i j hi hj hij q h3 h4 => ?_⟩
  · by_cases e : i < n
    · rw [gl i e, xl i e]; exact keepR i e
    · obtain rfl : i = n := by omega
      rw [gn, xn]; exact keepV
  · cases hq
    by_cases e : i < n
    · rw [gl i e] at hs
      rcases hat with hat | hat
      · exact h.ap i e g (h.ownBlk hat) hs
      · have := (h.tab i e).uHi g hs; omega
    · obtain rfl : i = n := by omega
      rw [gn] at hs
      rcases hat with hat | hat
      · exact h1 g hs (.inl (h.ownBlk hat))
      · have := OwnT.uHi hv g hs; omega
  · by_cases e : i < n
    · rw [gl i e] at h3
      by_cases e' : j < n
      · rw [gl j e'] at h4; exact h.pw i j e e' hij q h3 h4
      · obtain rfl : j = n := by omega
        rw [gn] at h4; exact h1 q h4 (.inr ⟨i, e, h3⟩)
    · obtain rfl : i = n := by omega
      rw [gn] at h3
      have e' : j < i := by omega
      rw [gl j e'] at h4; exact h1 q h3 (.inr ⟨j, e', h4⟩)
theorem Marked.grownCy (h : OwnCy w lo a n c us ts) (hg : w.grownBy w' (Value.slice a n c).ownBlock) : Marked (TTS a n us) w w' :=
  ⟨hg.os, hg.tape, hg.output, hg.size, fun k hk hs => hg.block k hk (fun e => hs (.inl (h.ownBlk e.symm)))⟩
end

/-- append of a table -/
theorem wp_appCy {o : Oper} {a : Act} {K : Act → World → Prop} {Q : Exit → Act → World → Prop} {w : World} {s x : Operand}
    (ho : o.op = .call { callee := .builtin .append, args := #[s, x], argTypes := #[31, 31] }) {lo : Nat} {ad : Option Addr} {n c : Nat} {us : List TV} {ts : List (List (List Int))} (hown : OwnCy w lo ad n c us ts) (hs : a.eval s = .slice ad n c)
    {va : Option Addr} {vn vc : Nat} {vv : List SV} {t : List (List Int)} {ty : TypeId} (hv : OwnT w lo va vn vc vv t) (h1 : ∀ q, TblS va vn vv q → ¬ TTS ad n us q) (hx : a.eval x = .slice (some ⟨w.heap.size, 0, none⟩) 1 1) (hlen : n + 1 ≤ 1000000000000) (hlo : lo ≤ w.heap.size)
    (h : ∀ g c' w', OwnCy w' lo (some ⟨g, 0, none⟩) (n + 1) c' (us ++ [((va, vn, vc), vv)]) (ts ++ [t]) → w.grownBy w' (Value.slice ad n c).ownBlock → ((Value.slice ad n c).ownBlock = some g ∨ w.heap.size ≤ g) → Below lo w w' → K (a.put o.dst (.slice (some ⟨g, 0, none⟩) (n + 1) c')) w') :
    Oper.wp Try.prog o a (w.alloc (.cells #[.slice va vn vc] ty)) K Q := by
  obtain ⟨i0, hi, hz0, hz1, hz2⟩ := info_parts info_Cy
  refine wp_append_lies _ s x 31 ho lo 43 i0 (.agg #[.slice none 0 0]) 1 24 und_Cy hi hz0 hz1 hz2 rfl (by decide) _ n (us.map slT) hs (hown.hdr.alloc _) ⟨w.heap.size, 0, none⟩ 1 1 [.slice va vn vc] hx rfl (cell_one_new _ _ _) ?_ (by omega) ?_ ?_ ?_ (w.heap.size + 1) (by simp) ?_
  · intro u hu; simp at hu; subst hu; rfl
  · unfold maxLen; omega
  · omega
  · simp; omega
  · intro g cap w' ho' hg hat hlt
    have hg' : w.grownBy w' (Value.slice ad n c).ownBlock := by
      have h1 := World.grownBy_alloc w (.cells #[.slice va vn vc] ty) (Value.slice ad n c).ownBlock
      exact ⟨hg.os.trans h1.os, hg.tape.trans h1.tape, hg.output.trans h1.output, Nat.le_trans h1.size hg.size, fun k hk hn => (hg.block k (Nat.lt_of_lt_of_le hk h1.size) hn).trans (h1.block k hk hn)⟩
    have hat' : (Value.slice ad n c).ownBlock = some g ∨ w.heap.size ≤ g := by
      rcases hat with hat | hat
      · exact .inl hat
      · exact .inr (by omega)
    exact h g cap w' (hown.snoc (o := .cells #[] ty) (u := ((va, vn, vc), vv)) hv h1 ho' hg' hat') hg' hat' ((Below.refl _ _).grown hg' hlo (fun k hk => (World.ownsRow.lt hown.hdr k hk).1))
theorem appCy {ops : Array Oper} {rest : List Oper} {o : Oper} {a : Act} {Q : Exit → Act → World → Prop} {w : World} (hgd : o.guard = none) {s x : Operand}
    (ho : o.op = .call { callee := .builtin .append, args := #[s, x], argTypes := #[31, 31] }) {lo : Nat} {ad : Option Addr} {n c : Nat} {us : List TV} {ts : List (List (List Int))} (hown : OwnCy w lo ad n c us ts) (hs : a.eval s = .slice ad n c)
    {va : Option Addr} {vn vc : Nat} {vv : List SV} {t : List (List Int)} {ty : TypeId} (hv : OwnT w lo va vn vc vv t) (h1 : ∀ q, TblS va vn vv q → ¬ TTS ad n us q) (hx : a.eval x = .slice (some ⟨w.heap.size, 0, none⟩) 1 1) (hlen : n + 1 ≤ 1000000000000) (hlo : lo ≤ w.heap.size)
    (h : ∀ g c' w', OwnCy w' lo (some ⟨g, 0, none⟩) (n + 1) c' (us ++ [((va, vn, vc), vv)]) (ts ++ [t]) → w.grownBy w' (Value.slice ad n c).ownBlock → ((Value.slice ad n c).ownBlock = some g ∨ w.heap.size ≤ g) → Below lo w w' → wpList Try.prog ops Q rest (a.put o.dst (.slice (some ⟨g, 0, none⟩) (n + 1) c')) w') :
    wpList Try.prog ops Q (o :: rest) a (w.alloc (.cells #[.slice va vn vc] ty)) :=
  wpList_plain hgd fun _ hK => wp_appCy ho hown hs hv h1 hx hlen hlo fun g c' w' a b c d => hK _ _ (h g c' w' a b c d)
theorem step_appCyn {ops : Array Oper} {o : Oper} {a : Act} {K : Act → World → Prop} {Q : Exit → Act → World → Prop} {E : Prop} {w : World} (hgd : o.guard = none) {s x : Operand}
    (ho : o.op = .call { callee := .builtin .append, args := #[s, x], argTypes := #[31, 31] }) {lo : Nat} {ad : Option Addr} {n c : Nat} {us : List TV} {ts : List (List (List Int))} (hown : OwnCy w lo ad n c us ts) (hs : a.eval s = .slice ad n c)
    {va : Option Addr} {vn vc : Nat} {vv : List SV} {t : List (List Int)} {ty : TypeId} (hv : OwnT w lo va vn vc vv t) (h1 : ∀ q, TblS va vn vv q → ¬ TTS ad n us q) (hx : a.eval x = .slice (some ⟨w.heap.size, 0, none⟩) 1 1) (hlen : n + 1 ≤ 1000000000000) (hlo : lo ≤ w.heap.size)
    (h : ∀ g c' w', OwnCy w' lo (some ⟨g, 0, none⟩) (n + 1) c' (us ++ [((va, vn, vc), vv)]) (ts ++ [t]) → w.grownBy w' (Value.slice ad n c).ownBlock → ((Value.slice ad n c).ownBlock = some g ∨ w.heap.size ≤ g) → Below lo w w' → K (a.put o.dst (.slice (some ⟨g, 0, none⟩) (n + 1) c')) w') :
    if Region.wanted o (yielded ops a.tmps) = true then Oper.wp Try.prog o a (w.alloc (.cells #[.slice va vn vc] ty)) K Q else E := by
  have hw : Region.wanted o (yielded ops a.tmps) = true := by simp [Region.wanted, hgd]
  rw [if_pos hw]
  exact wp_appCy ho hown hs hv h1 hx hlen hlo h
end Go.Proofs.Ythgafpeblpnolaa
