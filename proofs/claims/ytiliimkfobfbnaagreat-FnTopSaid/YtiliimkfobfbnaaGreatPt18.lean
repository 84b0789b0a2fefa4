/-
  Walks and plain laws of this seat, some texts in one.
  No condition but bounds on lengths.
-/
import Derived.Test.YtiliimkfobfbnaaGreatPt6
import Derived.Test.YtiliimkfobfbnaaGreatPt3
import Derived.Test.YtiliimkfobfbnaaGreatPt16
import Derived.Test.YtiliimkfobfbnaaGreatPt4
import Derived.Test.YtiliimkfobfbnaaGreatPt5
import Derived.Test.YtiliimkfobfbnaaGreatPt17
import Derived.Test.YtiliimkfobfbnaaGreatPt2
import Derived.Deep.DeepCutAuto
import Derived.RangeFuncNested
import Derived.RangeFuncBound
import Derived.RangeFuncCalls
import Derived.RangeFuncLeaves
import Derived.OwnWalkIn
import Derived.TacticsInMore
import Derived.LoopNIn
import Derived.LoopIn
import Derived.Test.YtiliimkfobfbnaaGreatPt14
import Derived.Deep.RegionLaw
import Derived.Shelf.Abstract
namespace Go.Proofs.YtiliimkfobfbnaaGreat
set_option maxRecDepth 100000
set_option linter.unusedVariables false
set_option linter.unusedSimpArgs false
open Go.RowKit
theorem info_tabs : (Tryz.prog.info? 24).map (fun i => (i.zero, i.size, i.bytes)) = some (some (.slice none 0 0), 1, 24) := by kernel_rfl
theorem und_tabs : Tryz.prog.underlying 125 = some (.slice 24) := by kernel_rfl
abbrev TV : Type := SV × List SV
def tvO : TV := (svO, [])
def slT (u : TV) : Value := sl u.1
def TvS (u : TV) (g : Nat) : Prop := TblS u.1.1 u.1.2.1 u.2 g
def OwnV (w : World) (lo : Nat) (u : TV) (t : List (List Int)) : Prop := OwnT w lo u.1.1 u.1.2.1 u.1.2.2 u.2 t
structure OwnTT (w : World) (lo : Nat) (a : Option Addr) (n c : Nat) (us : List TV) (ts : List (List (List Int))) : Prop where
  len : n = ts.length
  ulen : us.length = n
  hdr : w.ownsRow lo 24 1 (.slice a n c) n (us.map slT)
  tab : ∀ i, i < n → OwnV w lo (us.getD i tvO) (ts.getD i [])
  ap : ∀ i, i < n → ∀ g, a = some ⟨g, 0, none⟩ → ¬ TvS (us.getD i tvO) g
  pw : ∀ i j, i < n → j < n → i ≠ j → ∀ g, TvS (us.getD i tvO) g → ¬ TvS (us.getD j tvO) g
def TTS (a : Option Addr) (n : Nat) (us : List TV) (g : Nat) : Prop := a = some ⟨g, 0, none⟩ ∨ ∃ i, i < n ∧ TvS (us.getD i tvO) g
section
variable {w w' : World} {lo : Nat} {a : Option Addr} {n c : Nat} {us : List TV} {ts : List (List (List Int))}
theorem OwnTT.nil (w : World) (lo : Nat) : OwnTT w lo none 0 0 [] [] :=
  ⟨rfl, rfl, World.ownsRow_nil w lo _ 1, fun i h => absurd h (by omega), fun i h => absurd h (by omega), fun i j h => absurd h (by omega)⟩
theorem OwnTT.block (h : OwnTT w lo a n c us ts) : (a = none ∧ n = 0 ∧ c = 0) ∨ ∃ g cur, a = some ⟨g, 0, none⟩ ∧ lo ≤ g ∧ Loc w g cur 24 ∧ n ≤ c ∧ c ≤ maxLen ∧ cur.size = c ∧ cur.toList.take n = us.map slT := by
  rcases h.hdr.2 with ⟨h1, h2⟩ | ⟨g, cap, cur, h1, h2, h3, h4, h5, h6, h7⟩
  · cases h1; exact .inl ⟨rfl, rfl, rfl⟩
  · cases h1; exact .inr ⟨g, cur, rfl, h2, h3, h4, h5, by simpa using h6, by simpa using h7⟩
theorem ownsRowT_mk {w : World} {lo g n c : Nat} {us : List TV} {cur : Array Value} (hn : us.length = n) (h1 : lo ≤ g) (h2 : Loc w g cur 24) (h3 : n ≤ c) (h4 : c ≤ maxLen) (h5 : cur.size = c) (h6 : cur.toList.take n = us.map slT) :
    w.ownsRow lo 24 1 (.slice (some ⟨g, 0, none⟩) n c) n (us.map slT) :=
  ⟨by simp [hn], .inr ⟨g, c, cur, rfl, h1, h2, h3, h4, by simpa using h5, by simpa using h6⟩⟩
theorem OwnTT.high (h : OwnTT w lo a n c us ts) : ∀ g, a = some ⟨g, 0, none⟩ → g < w.heap.size := by
  intro g hg
  rcases h.block with ⟨h1, _⟩ | ⟨g', cur, h1, h2, h3, _⟩
  · rw [h1] at hg; cases hg
  · rw [h1] at hg; cases hg; exact h3.lt
theorem OwnTT.low (h : OwnTT w lo a n c us ts) : ∀ g, a = some ⟨g, 0, none⟩ → lo ≤ g := by
  intro g hg
  rcases h.block with ⟨h1, _⟩ | ⟨g', cur, h1, h2, h3, _⟩
  · rw [h1] at hg; cases hg
  · rw [h1] at hg; cases hg; exact h2
theorem OwnTT.uLo (h : OwnTT w lo a n c us ts) : ∀ g, TTS a n us g → lo ≤ g := fun g hg => by
  rcases hg with hg | ⟨i, hi, hg⟩
  · exact h.low g hg
  · exact (h.tab i hi).uLo g hg
theorem OwnTT.uHi (h : OwnTT w lo a n c us ts) : ∀ g, TTS a n us g → g < w.heap.size := fun g hg => by
  rcases hg with hg | ⟨i, hi, hg⟩
  · exact h.high g hg
  · exact (h.tab i hi).uHi g hg
theorem OwnTT.keep (h : OwnTT w lo a n c us ts) (hk : ∀ g, TTS a n us g → g < w.heap.size → w'.heap[g]? = w.heap[g]?) : OwnTT w' lo a n c us ts := by
  refine ⟨h.len, h.ulen, ?_, fun i hi => OwnT.keep (h.tab i hi) fun g hg hlt => hk g (.inr ⟨i, hi, hg⟩) hlt, h.ap, h.pw⟩
  rcases h.block with ⟨h1, h2, h3⟩ | ⟨g, cur, h1, h2, h3, h4, h5, h6, h7⟩
  · subst h1 h2 h3
    have : us = [] := List.eq_nil_of_length_eq_zero h.ulen
    subst this; exact World.ownsRow_nil _ _ _ _
  · subst h1
    exact ownsRowT_mk h.ulen h2 ((hk g (.inl rfl) h3.lt).trans h3) h4 h5 h6 h7
theorem OwnTT.below (h : OwnTT w lo a n c us ts) (hb : Below w.heap.size w w') : OwnTT w' lo a n c us ts := h.keep fun g _ hlt => hb.block g hlt
theorem OwnTT.alloc (h : OwnTT w lo a n c us ts) (o : Obj) : OwnTT (w.alloc o) lo a n c us ts := h.below ((Below.refl _ _).alloc (Nat.le_refl _) o)
theorem OwnTT.drewN (h : OwnTT w lo a n c us ts) (k : Nat) : OwnTT (w.drewN k) lo a n c us ts := h.keep fun _ _ _ => rfl
theorem OwnTT.mono {lo' : Nat} (h : OwnTT w lo a n c us ts) (hl : lo' ≤ lo) : OwnTT w lo' a n c us ts := by
  refine ⟨h.len, h.ulen, ?_, fun i hi => (h.tab i hi).mono hl, h.ap, h.pw⟩
  rcases h.block with ⟨h1, h2, h3⟩ | ⟨g, cur, h1, h2, h3, h4, h5, h6, h7⟩
  · subst h1 h2 h3
    have : us = [] := List.eq_nil_of_length_eq_zero h.ulen
    subst this; exact World.ownsRow_nil _ _ _ _
  · subst h1; exact ownsRowT_mk h.ulen (Nat.le_trans hl h2) h3 h4 h5 h6 h7
theorem OwnTT.setlo (h : OwnTT w lo a n c us ts) {p : Addr} (hp : p.block < lo) (u : Value) : OwnTT (w.setCell p u) lo a n c us ts :=
  h.keep fun g hg _ => Below.heap_setCell _ _ _ _ (by have := h.uLo g hg; omega)
theorem OwnTT.cap (h : OwnTT w lo a n c us ts) : n ≤ c ∧ c ≤ 9223372036854775807 := by
  rcases h.block with ⟨_, h1, h2⟩ | ⟨g', cur, h1, h2, h3, h4, h5, _⟩
  · omega
  · unfold maxLen at h5; omega
theorem OwnTT.cells (h : OwnTT w lo a n c us ts) (hn : 0 < n) : ∃ g, a = some ⟨g, 0, none⟩ ∧ g < w.heap.size ∧ (∀ i, i < n → w.cell? ⟨g, i, none⟩ = some (slT (us.getD i tvO))) ∧ ∀ i, w.frozen? ⟨g, i, none⟩ = false := by
  rcases h.block with ⟨h1, h2, h3⟩ | ⟨g, cur, h1, h2, h3, h4, h5, h6, h7⟩
  · omega
  · refine ⟨g, h1, h3.lt, fun i hi => h3.cell i ?_, fun i => h3.free i⟩
    have hx : (cur.toList.take n)[i]? = (us.map slT)[i]? := by rw [h7]
    have hxi : i < us.length := by have := h.ulen; omega
    rw [List.getElem?_take, if_pos hi] at hx
    simp [List.getElem?_eq_getElem hxi] at hx
    simp [List.getD_eq_getElem?_getD, List.getElem?_eq_getElem hxi, hx]
theorem OwnTT.ownBlk (h : OwnTT w lo a n c us ts) {g : Nat} (e : (Value.slice a n c).ownBlock = some g) : a = some ⟨g, 0, none⟩ := by
  rcases h.block with ⟨r1, _⟩ | ⟨g2, cur, r1, _⟩
  · subst r1; simp [Value.ownBlock] at e
  · subst r1; simp [Value.ownBlock] at e; subst e; rfl
theorem OwnTT.snoc {o : Obj} {g cap : Nat} {u : TV} {t : List (List Int)} (h : OwnTT w lo a n c us ts) (hv : OwnV w lo u t) (h1 : ∀ q, TvS u q → ¬ TTS a n us q)
    (ho : w'.ownsRow lo 24 1 (.slice (some ⟨g, 0, none⟩) (n + 1) cap) (n + 1) (us.map slT ++ [slT u]))
    (hg : w.grownBy w' (Value.slice a n c).ownBlock) (hat : (Value.slice a n c).ownBlock = some g ∨ w.heap.size ≤ g) : OwnTT w' lo (some ⟨g, 0, none⟩) (n + 1) cap (us ++ [u]) (ts ++ [t]) := by
  have hl := h.len
  have hul := h.ulen
  have gl : ∀ i, i < n → (us ++ [u]).getD i tvO = us.getD i tvO := fun i hi => by simp [List.getD_eq_getElem?_getD, List.getElem?_append_left (show i < us.length by omega)]
  have gn : (us ++ [u]).getD n tvO = u := by rw [← hul]; simp [List.getD_eq_getElem?_getD]
  have xl : ∀ i, i < n → (ts ++ [t]).getD i [] = ts.getD i [] := fun i hi => by simp [List.getD_eq_getElem?_getD, List.getElem?_append_left (show i < ts.length by omega)]
  have xn : (ts ++ [t]).getD n [] = t := by rw [hl]; simp [List.getD_eq_getElem?_getD]
  have keepR : ∀ i, i < n → OwnV w' lo (us.getD i tvO) (ts.getD i []) := fun i hi => OwnT.keep (h.tab i hi) fun q hq hlt => hg.block q hlt fun e => h.ap i hi q (h.ownBlk e.symm) hq
  have keepV : OwnV w' lo u t := OwnT.keep hv fun q hq hlt => hg.block q hlt fun e => h1 q hq (.inl (h.ownBlk e.symm))
  refine ⟨by simp [hl], by simp [hul], by simpa using ho, fun i hi => ?_, fun i hi q hq hs => ?_, fun i j hi hj hij q h3 h4 => ?_⟩
  · by_cases e : i < n
    · rw [gl i e, xl i e]; exact keepR i e
    · obtain rfl : i = n := by omega
      rw [gn, xn]; exact keepV
  · cases hq
    by_cases e : i < n
    · rw [gl i e] at hs
      rcases hat with hat | hat
      · exact h.ap i e g (h.ownBlk hat) hs
      · have := (h.tab i e).uHi g hs; omega
    · obtain rfl : i = n := by omega
      rw [gn] at hs
      rcases hat with hat | hat
      · exact h1 g hs (.inl (h.ownBlk hat))
      · have := OwnT.uHi hv g hs; omega
  · by_cases e : i < n
    · rw [gl i e] at h3
      by_cases e' : j < n
      · rw [gl j e'] at h4; exact h.pw i j e e' hij q h3 h4
      · obtain rfl : j = n := by omega
        rw [gn] at h4; exact h1 q h4 (.inr ⟨i, e, h3⟩)
    · obtain rfl : i = n := by omega
      rw [gn] at h3
      have e' : j < i := by omega
      rw [gl j e'] at h4; exact h1 q h3 (.inr ⟨j, e', h4⟩)
theorem TTS.snoc {u : TV} {g q : Nat} (hl : us.length = n) (h : TTS (some ⟨g, 0, none⟩) (n + 1) (us ++ [u]) q) : q = g ∨ TvS u q ∨ TTS a n us q := by
  rcases h with e | ⟨i, hi, e⟩
  · cases e; exact .inl rfl
  · by_cases hin : i < n
    · have : (us ++ [u]).getD i tvO = us.getD i tvO := by simp [List.getD_eq_getElem?_getD, List.getElem?_append_left (show i < us.length by omega)]
      rw [this] at e
      exact .inr (.inr (.inr ⟨i, hin, e⟩))
    · obtain rfl : i = n := by omega
      have : (us ++ [u]).getD i tvO = u := by rw [← hl]; simp [List.getD_eq_getElem?_getD]
      rw [this] at e
      exact .inr (.inl e)
theorem Marked.grownTT (h : OwnTT w lo a n c us ts) (hg : w.grownBy w' (Value.slice a n c).ownBlock) : Marked (TTS a n us) w w' :=
  ⟨hg.os, hg.tape, hg.output, hg.size, fun k hk hs => hg.block k hk (fun e => hs (.inl (h.ownBlk e.symm)))⟩
end
def HdR (w : World) (a : Option Addr) (n : Nat) (vs : List SV) : Prop := vs.length = n ∧ ∀ i, i < n → ∃ b off, a = some ⟨b, off, none⟩ ∧ b < w.heap.size ∧ w.cell? ⟨b, off + i, none⟩ = some (sl (vs.getD i svO))
def Hd (w : World) (lo : Nat) (a : Option Addr) (n c : Nat) (vs : List SV) : Prop := vs.length = n ∧ w.ownsRow lo 50 1 (.slice a n c) n (vs.map sl)
section
variable {w w' : World} {lo : Nat} {a : Option Addr} {n c : Nat} {vs : List SV}
theorem Hd.nil (w : World) (lo : Nat) : Hd w lo none 0 0 [] := ⟨rfl, World.ownsRow_nil w lo _ 1⟩
theorem Hd.block (h : Hd w lo a n c vs) : (a = none ∧ n = 0 ∧ c = 0) ∨ ∃ g cur, a = some ⟨g, 0, none⟩ ∧ lo ≤ g ∧ Loc w g cur 50 ∧ n ≤ c ∧ c ≤ maxLen ∧ cur.size = c ∧ cur.toList.take n = vs.map sl := by
  rcases h.2.2 with ⟨h1, h2⟩ | ⟨g, cap, cur, h1, h2, h3, h4, h5, h6, h7⟩
  · cases h1; exact .inl ⟨rfl, rfl, rfl⟩
  · cases h1; exact .inr ⟨g, cur, rfl, h2, h3, h4, h5, by simpa using h6, by simpa using h7⟩
theorem Hd.hi (h : Hd w lo a n c vs) : ∀ g, a = some ⟨g, 0, none⟩ → g < w.heap.size := by
  intro g hg
  rcases h.block with ⟨h1, _⟩ | ⟨g', cur, h1, h2, h3, _⟩
  · rw [h1] at hg; cases hg
  · rw [h1] at hg; cases hg; exact h3.lt
theorem Hd.low (h : Hd w lo a n c vs) : ∀ g, a = some ⟨g, 0, none⟩ → lo ≤ g := by
  intro g hg
  rcases h.block with ⟨h1, _⟩ | ⟨g', cur, h1, h2, h3, _⟩
  · rw [h1] at hg; cases hg
  · rw [h1] at hg; cases hg; exact h2
theorem Hd.keep (h : Hd w lo a n c vs) (hk : ∀ g, a = some ⟨g, 0, none⟩ → g < w.heap.size → w'.heap[g]? = w.heap[g]?) : Hd w' lo a n c vs := by
  rcases h.block with ⟨h1, h2, h3⟩ | ⟨g, cur, h1, h2, h3, h4, h5, h6, h7⟩
  · subst h1 h2 h3
    have : vs = [] := List.eq_nil_of_length_eq_zero h.1
    subst this; exact Hd.nil _ _
  · subst h1
    exact ⟨h.1, ownsRow_mk h.1 h2 ((hk g rfl h3.lt).trans h3) h4 h5 h6 h7⟩
theorem Hd.below (h : Hd w lo a n c vs) (hb : Below w.heap.size w w') : Hd w' lo a n c vs := h.keep fun g _ hlt => hb.block g hlt
theorem Hd.alloc (h : Hd w lo a n c vs) (o : Obj) : Hd (w.alloc o) lo a n c vs := h.below ((Below.refl _ _).alloc (Nat.le_refl _) o)
theorem Hd.drewN (h : Hd w lo a n c vs) (k : Nat) : Hd (w.drewN k) lo a n c vs := h.keep fun _ _ _ => rfl
theorem Hd.mono {lo' : Nat} (h : Hd w lo a n c vs) (hl : lo' ≤ lo) : Hd w lo' a n c vs := by
  rcases h.block with ⟨h1, h2, h3⟩ | ⟨g, cur, h1, h2, h3, h4, h5, h6, h7⟩
  · subst h1 h2 h3
    have : vs = [] := List.eq_nil_of_length_eq_zero h.1
    subst this; exact Hd.nil _ _
  · subst h1; exact ⟨h.1, ownsRow_mk h.1 (Nat.le_trans hl h2) h3 h4 h5 h6 h7⟩
theorem Hd.read (h : Hd w lo a n c vs) : HdR w a n vs := by
  refine ⟨h.1, fun i hi => ?_⟩
  rcases h.block with ⟨h1, h2, h3⟩ | ⟨g, cur, h1, h2, h3, h4, h5, h6, h7⟩
  · omega
  · refine ⟨g, 0, h1, h3.lt, ?_⟩
    rw [Nat.zero_add]
    refine h3.cell i ?_
    have hx : (cur.toList.take n)[i]? = (vs.map sl)[i]? := by rw [h7]
    have hxi : i < vs.length := by have := h.1; omega
    rw [List.getElem?_take, if_pos hi] at hx
    simp [List.getElem?_eq_getElem hxi] at hx
    simp [List.getD_eq_getElem?_getD, List.getElem?_eq_getElem hxi, hx]
theorem HdR.below (h : HdR w a n vs) (hb : Below w.heap.size w w') : HdR w' a n vs :=
  ⟨h.1, fun i hi => by obtain ⟨b, off, h1, h3, h2⟩ := h.2 i hi; exact ⟨b, off, h1, Nat.lt_of_lt_of_le h3 hb.size, (hb.cell (p := ⟨b, off + i, none⟩) h3).trans h2⟩⟩
theorem HdR.alloc (h : HdR w a n vs) (o : Obj) : HdR (w.alloc o) a n vs := h.below ((Below.refl _ _).alloc (Nat.le_refl _) o)
theorem HdR.none_nil (h : HdR w none n vs) : n = 0 ∧ vs = [] := by
  have h1 : n = 0 := by
    rcases Nat.eq_zero_or_pos n with e | e
    · exact e
    · obtain ⟨b, off, e', _⟩ := h.2 0 e; cases e'
  exact ⟨h1, List.eq_nil_of_length_eq_zero (by have := h.1; omega)⟩
theorem HdR.tbl {xss : List (List Int)} (h : HdR w a n vs) (hl : n = xss.length) (hr : ∀ i, i < n → Row w (vs.getD i svO).1 (vs.getD i svO).2.1 (xss.getD i []) ∧ (vs.getD i svO).2.1 ≤ 9223372036854775807) : Tbl w a n xss :=
  ⟨hl, fun i hi => by obtain ⟨b, off, h1, h2, h3⟩ := h.2 i hi; exact ⟨b, off, _, _, _, h1, h2, h3, (hr i hi).1, (hr i hi).2⟩⟩
end
theorem Hd.fresh (w : World) {b : Nat} (hb : b = w.heap.size) : Hd (w.alloc (.cells #[] 50)) w.heap.size (some ⟨b, 0, none⟩) 0 0 [] :=
  ⟨rfl, ownsRow_mk rfl (by omega) (Loc.new _ hb _ _) (Nat.le_refl _) (by unfold maxLen; omega) rfl rfl⟩
theorem wp_appH {o : Oper} {a : Act} {K : Act → World → Prop} {Q : Exit → Act → World → Prop} {w : World} {s x : Operand}
    (ho : o.op = .call { callee := .builtin .append, args := #[s, x], argTypes := #[24, 24] }) {lo : Nat} {ad : Option Addr} {n c : Nat} {vs : List SV} (hown : Hd w lo ad n c vs) (hs : a.eval s = .slice ad n c)
    {ad2 : Option Addr} {m c2 : Nat} {us : List SV} (hr : HdR w ad2 m us) (hx : a.eval x = .slice ad2 m c2) (hlen : n + m ≤ 1000000000000) (hlo : lo ≤ w.heap.size)
    (h : ∀ ad' c' w', Hd w' lo ad' (n + m) c' (vs ++ us) → w.grownBy w' (Value.slice ad n c).ownBlock → Below lo w w' → K (a.put o.dst (.slice ad' (n + m) c')) w') :
    o.wp Tryz.prog a w K Q := by
  obtain ⟨i0, hi, hz0, hz1, hz2⟩ := info_parts info_rows
  obtain ⟨hn, hw⟩ := hown
  cases ad2 with
  | none =>
    obtain ⟨rfl, rfl⟩ := hr.none_nil
    have hrun := run_append_none_any (P := Tryz.prog) w lo 24 o.type 50 i0 1 und_rows hi _ n c2 _ hw
    unfold Oper.wp
    simp [execOp, ho, resolve, invoke, builtin, hs, hx, hrun, Result.andThen]
    have hh := h ad c w ⟨by simpa using hn, by simpa using hw⟩ (World.grownBy.refl _ _) (Below.refl _ _)
    exact hh
  | some p =>
    refine wp_append_own _ s x 24 ho lo 50 i0 (.slice none 0 0) 1 24 und_rows hi hz0 hz1 hz2 rfl (by decide) _ n (vs.map sl) hs hw p m c2 (us.map sl) hx (by simp [hr.1]) ?_ ?_ ?_ ?_ hlo ?_
    · intro j u hj
      have hjm : j < m := by
        have := (List.getElem?_eq_some_iff.1 hj).1
        rw [List.length_map] at this; have := hr.1; omega
      obtain ⟨b, off, h1, _, h2⟩ := hr.2 j hjm
      cases h1
      have e : (⟨b, off, none⟩ : Addr).add j = ⟨b, off + j, none⟩ := by unfold Addr.add; split <;> simp_all
      have hjy : j < us.length := by have := hr.1; omega
      rw [e, h2, ← hj]
      simp [List.getD_eq_getElem?_getD, List.getElem?_eq_getElem hjy]
    · intro u hu
      rw [List.mem_map] at hu
      obtain ⟨y, _, rfl⟩ := hu; rfl
    · unfold maxLen; omega
    · omega
    · intro v' w' ho' hg hv'
      have hb : Below lo w w' := (Below.refl _ _).grown hg hlo (fun k hk => (World.ownsRow.lt hw k hk).1)
      have ho2 := ho'
      obtain ⟨hl, h2⟩ := ho'
      rcases h2 with ⟨rfl, h2⟩ | ⟨g, cap, cur, rfl, h2⟩
      · have hn0 : n = 0 := by omega
        have hm0 : m = 0 := by omega
        subst hn0 hm0
        have hx0 : vs = [] := List.eq_nil_of_length_eq_zero hn
        have hy0 : us = [] := List.eq_nil_of_length_eq_zero hr.1
        subst hx0 hy0
        exact h none 0 w' (Hd.nil _ _) hg hb
      · exact h _ _ w' ⟨by simp [hn, hr.1], by simpa using ho2⟩ hg hb
theorem appH {ops : Array Oper} {rest : List Oper} {o : Oper} {a : Act} {Q : Exit → Act → World → Prop} {w : World} (hgd : o.guard = none) {s x : Operand}
    (ho : o.op = .call { callee := .builtin .append, args := #[s, x], argTypes := #[24, 24] }) {lo : Nat} {ad : Option Addr} {n c : Nat} {vs : List SV} (hown : Hd w lo ad n c vs) (hs : a.eval s = .slice ad n c)
    {ad2 : Option Addr} {m c2 : Nat} {us : List SV} (hr : HdR w ad2 m us) (hx : a.eval x = .slice ad2 m c2) (hlen : n + m ≤ 1000000000000) (hlo : lo ≤ w.heap.size)
    (h : ∀ ad' c' w', Hd w' lo ad' (n + m) c' (vs ++ us) → w.grownBy w' (Value.slice ad n c).ownBlock → Below lo w w' → wpList Tryz.prog ops Q rest (a.put o.dst (.slice ad' (n + m) c')) w') :
    wpList Tryz.prog ops Q (o :: rest) a w :=
  wpList_plain hgd fun _ hK => wp_appH ho hown hs hr hx hlen hlo fun _ _ _ h1 h2 h3 => hK _ _ (h _ _ _ h1 h2 h3)
theorem wp_app1h {o : Oper} {a : Act} {K : Act → World → Prop} {Q : Exit → Act → World → Prop} {w : World} {s x : Operand}
    (ho : o.op = .call { callee := .builtin .append, args := #[s, x], argTypes := #[50, 50] }) {lo : Nat} {ad : Option Addr} {n c : Nat} {xs : List Int} (hown : Own w lo ad n c xs) (hs : a.eval s = .slice ad n c)
    {y : Int} {t : TypeId} (hx : a.eval x = .slice (some ⟨w.heap.size, 0, none⟩) 1 1) (hlen : n + 1 ≤ 1000000000000) (hlo : lo ≤ w.heap.size)
    (h : ∀ g c' w', Own w' lo (some ⟨g, 0, none⟩) (n + 1) c' (xs ++ [y]) → w.grownBy w' (Value.slice ad n c).ownBlock → ((Value.slice ad n c).ownBlock = some g ∨ w.heap.size ≤ g) → Below lo w w' → K (a.put o.dst (.slice (some ⟨g, 0, none⟩) (n + 1) c')) w') :
    Oper.wp Tryz.prog o a (w.alloc (.cells #[.int .i64 y] t)) K Q := by
  obtain ⟨i0, hi, hz0, hz1, hz2⟩ := info_parts info_int
  refine wp_append_lies _ s x 50 ho lo 2 i0 (.int .i64 0) 1 8 und_ints hi hz0 hz1 hz2 rfl (by decide) _ n (xs.map (.int .i64)) hs (hown.2.alloc _) ⟨w.heap.size, 0, none⟩ 1 1 [.int .i64 y] hx rfl (cell_one_new _ _ _) ?_ (by omega) ?_ ?_ ?_ (w.heap.size + 1) (by simp) ?_
  · intro u hu; simp at hu; subst hu; rfl
  · unfold maxLen; omega
  · omega
  · simp; omega
  · intro g cap w' ho' hg hat hlt
    have hg' : w.grownBy w' (Value.slice ad n c).ownBlock := by
      have h1 := World.grownBy_alloc w (.cells #[.int .i64 y] t) (Value.slice ad n c).ownBlock
      exact ⟨hg.os.trans h1.os, hg.tape.trans h1.tape, hg.output.trans h1.output, Nat.le_trans h1.size hg.size, fun k hk hn => (hg.block k (Nat.lt_of_lt_of_le hk h1.size) hn).trans (h1.block k hk hn)⟩
    have hat' : (Value.slice ad n c).ownBlock = some g ∨ w.heap.size ≤ g := by
      rcases hat with hat | hat
      · exact .inl hat
      · exact .inr (by omega)
    exact h g cap w' ⟨by simp [hown.1], by simpa using ho'⟩ hg' hat' ((Below.refl _ _).grown hg' hlo (fun k hk => (World.ownsRow.lt hown.2 k hk).1))
theorem app1h {ops : Array Oper} {rest : List Oper} {o : Oper} {a : Act} {Q : Exit → Act → World → Prop} {w : World} (hgd : o.guard = none) {s x : Operand}
    (ho : o.op = .call { callee := .builtin .append, args := #[s, x], argTypes := #[50, 50] }) {lo : Nat} {ad : Option Addr} {n c : Nat} {xs : List Int} (hown : Own w lo ad n c xs) (hs : a.eval s = .slice ad n c)
    {y : Int} {t : TypeId} (hx : a.eval x = .slice (some ⟨w.heap.size, 0, none⟩) 1 1) (hlen : n + 1 ≤ 1000000000000) (hlo : lo ≤ w.heap.size)
    (h : ∀ g c' w', Own w' lo (some ⟨g, 0, none⟩) (n + 1) c' (xs ++ [y]) → w.grownBy w' (Value.slice ad n c).ownBlock → ((Value.slice ad n c).ownBlock = some g ∨ w.heap.size ≤ g) → Below lo w w' → wpList Tryz.prog ops Q rest (a.put o.dst (.slice (some ⟨g, 0, none⟩) (n + 1) c')) w') :
    wpList Tryz.prog ops Q (o :: rest) a (w.alloc (.cells #[.int .i64 y] t)) :=
  wpList_plain hgd fun _ hK => wp_app1h ho hown hs hx hlen hlo fun g c' w' a b c d => hK _ _ (h g c' w' a b c d)
theorem step_app1hn {ops : Array Oper} {o : Oper} {a : Act} {K : Act → World → Prop} {Q : Exit → Act → World → Prop} {E : Prop} {w : World} (hgd : o.guard = none) {s x : Operand}
    (ho : o.op = .call { callee := .builtin .append, args := #[s, x], argTypes := #[50, 50] }) {lo : Nat} {ad : Option Addr} {n c : Nat} {xs : List Int} (hown : Own w lo ad n c xs) (hs : a.eval s = .slice ad n c)
    {y : Int} {t : TypeId} (hx : a.eval x = .slice (some ⟨w.heap.size, 0, none⟩) 1 1) (hlen : n + 1 ≤ 1000000000000) (hlo : lo ≤ w.heap.size)
    (h : ∀ g c' w', Own w' lo (some ⟨g, 0, none⟩) (n + 1) c' (xs ++ [y]) → w.grownBy w' (Value.slice ad n c).ownBlock → ((Value.slice ad n c).ownBlock = some g ∨ w.heap.size ≤ g) → Below lo w w' → K (a.put o.dst (.slice (some ⟨g, 0, none⟩) (n + 1) c')) w') :
    if Region.wanted o (yielded ops a.tmps) = true then Oper.wp Tryz.prog o a (w.alloc (.cells #[.int .i64 y] t)) K Q else E := by
  have hw : Region.wanted o (yielded ops a.tmps) = true := by simp [Region.wanted, hgd]
  rw [if_pos hw]
  exact wp_app1h ho hown hs hx hlen hlo h
def Apr (a b : Option Addr) : Prop := ∀ g, a = some ⟨g, 0, none⟩ → b = some ⟨g, 0, none⟩ → False
theorem Apr.symm {a b : Option Addr} (h : Apr a b) : Apr b a := fun g h1 h2 => h g h2 h1
theorem Own.beside {w w' : World} {lo lo' : Nat} {a b : Option Addr} {n c m d : Nat} {xs ys : List Int} (h : Own w lo a n c xs) (hb : Own w lo' b m d ys) (hap : Apr a b) (hg : w.grownBy w' (Value.slice b m d).ownBlock) : Own w' lo a n c xs :=
  h.grown hg fun g e he => by
    rcases hb.block with ⟨rfl, rfl, rfl⟩ | ⟨g', cur, rfl, _⟩
    · simp [Value.ownBlock] at he
    · simp [Value.ownBlock] at he; subst he; exact hap g e rfl
theorem Own.apart {w : World} {lo lo' : Nat} {a b : Option Addr} {n c m d : Nat} {xs ys : List Int} {g : Nat} (h : Own w lo a n c xs) (hb : Own w lo' b m d ys) (hap : Apr a b) (hat : (Value.slice b m d).ownBlock = some g ∨ w.heap.size ≤ g) : Apr a (some ⟨g, 0, none⟩) := fun q e1 e2 => by
  obtain rfl : g = q := by simpa using e2
  rcases hat with hat | hat
  · rcases hb.block with ⟨rfl, rfl, rfl⟩ | ⟨g', cur, rfl, _⟩
    · simp [Value.ownBlock] at hat
    · simp [Value.ownBlock] at hat; subst hat; exact hap _ e1 rfl
  · have := h.hi _ e1; omega
theorem nodup_bdM : ∀ (n : Nat) (c : List Nat), c.Nodup → (∀ x ∈ c, x < n) → c.length ≤ n := by
  intro n
  induction n with
  | zero =>
    intro c _ h
    cases c with
    | nil => exact Nat.le_refl _
    | cons x c => exact absurd (h x List.mem_cons_self) (by omega)
  | succ n ih =>
    intro c hd h
    have h1 := ih (c.erase n) (hd.erase n) (fun x hx => by
      have h2 := (List.Nodup.mem_erase_iff hd).1 hx
      have := h x h2.2
      have := h2.1
      omega)
    by_cases hm : n ∈ c
    · rw [List.length_erase_of_mem hm] at h1; omega
    · rw [List.erase_of_not_mem hm] at h1; omega
theorem MapSt.natL {n : Nat} {im : List Int} {ud : List Bool} {st : List Int} (h : MapSt n im ud st) : ∃ c : List Nat, st = c.map (fun x => ((x : Nat) : Int)) ∧ c.Nodup ∧ ∀ x ∈ c, x < n := by
  refine ⟨st.map Int.toNat, ?_, ?_, ?_⟩
  · rw [List.map_map]
    conv => lhs; rw [← List.map_id st]
    apply List.map_congr_left
    intro x hx
    obtain ⟨a, _, rfl⟩ := h.mem x hx
    simp
  · rw [List.nodup_iff_pairwise_ne, List.pairwise_map]
    have hnd := h.nd
    rw [List.nodup_iff_pairwise_ne] at hnd
    refine List.Pairwise.imp_of_mem (fun {a b} ha hb hab => ?_) hnd
    obtain ⟨a', _, rfl⟩ := h.mem a ha
    obtain ⟨b', _, rfl⟩ := h.mem b hb
    simp; omega
  · intro x hx
    obtain ⟨y, hy, rfl⟩ := List.mem_map.1 hx
    obtain ⟨a, ha, rfl⟩ := h.mem y hy
    simpa using ha
theorem MapSt.le {n : Nat} {im : List Int} {ud : List Bool} {st : List Int} (h : MapSt n im ud st) : st.length ≤ n := by
  obtain ⟨c, rfl, h1, h2⟩ := h.natL
  rw [List.length_map]; exact nodup_bdM n c h1 h2
/-! ### worlds that agree with another one but for some of its blocks -/
structure TB (S0 : Nat → Prop) (w0 : World) (g K n : Nat) (BB OO CC : Nat → Nat) (A O C : Nat → Nat → Nat) (ts : List (List (List Int))) : Prop where
  len : ts.length = K
  cell : ∀ w, Marked S0 w0 w → ∀ k, k < K → w.cell? ⟨g, k, none⟩ = some (.slice (some ⟨BB k, OO k, none⟩) n (CC k))
  grid : ∀ w, Marked S0 w0 w → ∀ k, k < K → Grid w (BB k) (OO k) (A k) (O k) (C k) n (ts.getD k [])
  sq : ∀ k, k < K → Sq n (ts.getD k [])
section
variable {S0 : Nat → Prop} {w0 w : World} {mb bi bu gf gt K kf kt n : Nat} {sa : Option Addr} {ns cs : Nat} {im : List Int} {ud : List Bool} {st : List Int}
end
theorem rowTakeB {w : World} {a : Option Addr} {n : Nat} {xs : List Int} (h : Row w a n xs) (m : Nat) (hm : m ≤ n) : Row w a m (xs.take m) := by
  refine ⟨by rw [List.length_take, ← h.len]; omega, fun i hi => ?_⟩
  obtain ⟨b, off, e1, e2, e3⟩ := h.2 i (by omega)
  refine ⟨b, off, e1, e2, ?_⟩
  rw [e3]
  simp [List.getD_eq_getElem?_getD, List.getElem?_take, hi]
theorem rowDropB {w : World} {g o n : Nat} {xs : List Int} (h : Row w (some ⟨g, o, none⟩) n xs) (q : Nat) (hq : q ≤ n) : Row w (some ⟨g, o + q, none⟩) (n - q) (xs.drop q) := by
  refine ⟨by rw [List.length_drop, h.len], fun i hi => ?_⟩
  obtain ⟨b, off, e1, e2, e3⟩ := h.2 (q + i) (by omega)
  cases e1
  refine ⟨g, o + q, rfl, e2, ?_⟩
  rw [show o + q + i = o + (q + i) by omega, e3]
  simp [List.getD_eq_getElem?_getD]
theorem slice_to (a : Option Addr) (n c q : Nat) (hq : q ≤ c) (v : World) : (Instr.slice 50 (.slice a n c) none (some (.int .i64 q)) none).run Tryz.prog v = .ok (.slice a q c) v := by
  have e1 : ((0 : Nat) : Int) ≤ (q : Int) := by omega
  have e2 : (q : Int) ≤ (c : Int) := by omega
  have e3 : q ≤ c := hq
  simp [go_sem, e2, e3]
theorem slice_from (a : Option Addr) (n c q : Nat) (hq : q ≤ n) : ∃ aT, (∀ v : World, (Instr.slice 50 (.slice a n c) (some (.int .i64 q)) none none).run Tryz.prog v = .ok (.slice aT (n - q) (c - q)) v) ∧ ∀ (w : World) (xs : List Int), n ≤ c → Row w a n xs → Row w aT (n - q) (xs.drop q) := by
  have e2 : (q : Int) ≤ (n : Int) := by omega
  refine ⟨if c = q then a else a.map (·.add q), fun v => ?_, fun w xs hc hr => ?_⟩
  · simp [go_sem, e2, hq]
  · by_cases h0 : n - q = 0
    · rw [h0, List.drop_eq_nil_of_le (by have := hr.len; omega)]
      exact Row.nil _ _
    · obtain ⟨g, o, rfl, _, _⟩ := hr.2 0 (by omega)
      rw [if_neg (by omega)]
      by_cases q0 : q = 0
      · subst q0; simpa [Addr.add] using hr
      · simpa [Addr.add, q0] using rowDropB hr q hq
structure UndS (n : Nat) (im' : List Int) (more : List Int) (j : Nat) (im : List Int) (ud : List Bool) : Prop where
  li : im.length = n
  lu : ud.length = n
  i1 : ∀ a, a < n → ((a : Nat) : Int) ∉ more.take j → im.getD a 0 = im'.getD a 0
  i2 : ∀ a, a < n → ((a : Nat) : Int) ∈ more.take j → im.getD a 0 = -1
  u : ∀ v, v < n → (ud.getD v false = true ↔ ∃ a, a < n ∧ Mp im a v)
section
variable {n : Nat} {im' : List Int} {ud' : List Bool} {st more : List Int} {j : Nat} {im : List Int} {ud : List Bool}
theorem UndS.start (h : MapSt n im' ud' (st ++ more)) : UndS n im' more 0 im' ud' :=
  ⟨h.li, h.lu, fun _ _ _ => rfl, fun a _ q => by simp at q, h.used⟩
theorem take_succM {l : List Int} {j : Nat} (h : j < l.length) : l.take (j + 1) = l.take j ++ [l.getD j 0] := by
  rw [List.take_succ_eq_append_getElem h, List.getD_eq_getElem?_getD, List.getElem?_eq_getElem h]; rfl
theorem UndS.get (h : MapSt n im' ud' (st ++ more)) (k : UndS n im' more j im ud) (hj : j < more.length) : ∃ a v, a < n ∧ v < n ∧ more.getD j 0 = ((a : Nat) : Int) ∧ im.getD a 0 = ((v : Nat) : Int) ∧ UndS n im' more (j + 1) (im.set a (-1)) (ud.set v false) := by
  have hm : more[j] ∈ st ++ more := List.mem_append_right _ (List.getElem_mem hj)
  obtain ⟨a, ha, e⟩ := h.mem _ hm
  have e1 : more.getD j 0 = ((a : Nat) : Int) := by rw [List.getD_eq_getElem?_getD, List.getElem?_eq_getElem hj, Option.getD_some, e]
  rw [e] at hm
  obtain ⟨u, hu⟩ := (h.dom a ha).1 hm
  obtain ⟨v, hv, hav⟩ : ∃ v, v < n ∧ Mp im' a v := by
    rcases h.val a ha with q | q
    · unfold Mp at hu; omega
    · exact q
  have hnd : more.Nodup := (List.nodup_append.1 h.nd).2.1
  have hna : ((a : Nat) : Int) ∉ more.take j := fun q => by
    have h2 : (more.take (j + 1)).Nodup := hnd.sublist (List.take_sublist _ _)
    rw [take_succM hj, e1] at h2
    exact (List.nodup_append.1 h2).2.2 _ q _ (by simp) rfl
  have hia : im.getD a 0 = ((v : Nat) : Int) := by rw [k.i1 a ha hna]; exact hav
  have hla : a < im.length := by rw [k.li]; exact ha
  have hlv : v < ud.length := by rw [k.lu]; exact hv
  have gi := fun b => getD_setI (l := im) (i := a) (j := b) (-1) hla
  have gu := fun b => getD_setB (l := ud) (i := v) (j := b) false hlv
  refine ⟨a, v, ha, hv, e1, hia, by rw [List.length_set]; exact k.li, by rw [List.length_set]; exact k.lu, fun b hb q => ?_, fun b hb q => ?_, fun x hx => ?_⟩
  · rw [take_succM hj, e1] at q
    have hne : a ≠ b := fun e => q (by rw [e]; simp)
    rw [gi, if_neg hne]
    exact k.i1 b hb (fun q2 => q (List.mem_append_left _ q2))
  · rw [take_succM hj, e1] at q
    rw [gi]
    by_cases hne : a = b
    · rw [if_pos hne]
    · rw [if_neg hne]
      refine k.i2 b hb ?_
      rcases List.mem_append.1 q with q | q
      · exact q
      · simp at q; omega
  · rw [gu]
    by_cases hne : v = x
    · subst hne
      rw [if_pos rfl]
      constructor
      · intro q; cases q
      · rintro ⟨b, hb, q⟩
        unfold Mp at q
        rw [gi] at q
        by_cases e2 : a = b
        · rw [if_pos e2] at q; omega
        · rw [if_neg e2] at q
          exfalso
          have h3 : ((b : Nat) : Int) ∉ more.take j := fun q2 => by have := k.i2 b hb q2; omega
          rw [k.i1 b hb h3] at q
          exact e2 (h.inj a b v ha hb hav q)
    · rw [if_neg hne, k.u x hx]
      constructor
      · rintro ⟨b, hb, q⟩
        refine ⟨b, hb, ?_⟩
        unfold Mp at q ⊢
        rw [gi]
        by_cases e2 : a = b
        · subst e2; omega
        · rw [if_neg e2]; exact q
      · rintro ⟨b, hb, q⟩
        refine ⟨b, hb, ?_⟩
        unfold Mp at q ⊢
        rw [gi] at q
        by_cases e2 : a = b
        · rw [if_pos e2] at q; omega
        · rw [if_neg e2] at q; exact q
theorem UndS.done {im0 : List Int} {ud0 : List Bool} (h0 : MapSt n im0 ud0 st) (he : ∀ a v, a < n → Mp im0 a v → Mp im' a v) (h : MapSt n im' ud' (st ++ more)) (k : UndS n im' more more.length im ud) : im = im0 ∧ ud = ud0 := by
  have e1 : ∀ a, a < n → im.getD a 0 = im0.getD a 0 := fun a ha => by
    by_cases q : ((a : Nat) : Int) ∈ more
    · rw [k.i2 a ha (by rw [List.take_length]; exact q)]
      rcases h0.val a ha with e | ⟨v, hv, e⟩
      · exact e.symm
      · have h1 := (h0.dom a ha).2 ⟨v, e⟩
        exact absurd rfl ((List.nodup_append.1 h.nd).2.2 _ h1 _ q)
    · rw [k.i1 a ha (by rw [List.take_length]; exact q)]
      rcases h0.val a ha with e | ⟨v, hv, e⟩
      · rcases h.val a ha with e2 | ⟨w, hw, e2⟩
        · rw [e, e2]
        · have h1 := (h.dom a ha).2 ⟨w, e2⟩
          rcases List.mem_append.1 h1 with h1 | h1
          · obtain ⟨u, hu⟩ := (h0.dom a ha).1 h1
            unfold Mp at hu; omega
          · exact absurd h1 q
      · have := he a v ha e
        unfold Mp at this e; rw [this, e]
  have e2 : im = im0 := by
    apply List.ext_getElem (by rw [k.li, h0.li])
    intro a h1 h2
    have := e1 a (by rw [← k.li]; exact h1)
    rw [List.getD_eq_getElem?_getD, List.getElem?_eq_getElem h1, List.getD_eq_getElem?_getD, List.getElem?_eq_getElem h2] at this
    exact this
  refine ⟨e2, ?_⟩
  subst e2
  apply List.ext_getElem (by rw [k.lu, h0.lu])
  intro a h1 h2
  have ha : a < n := by rw [← k.lu]; exact h1
  have := (k.u a ha).trans (h0.used a ha).symm
  rw [List.getD_eq_getElem?_getD, List.getElem?_eq_getElem h1, List.getD_eq_getElem?_getD, List.getElem?_eq_getElem h2] at this
  rw [Bool.eq_iff_iff]; exact this
end
section
variable {S0 : Nat → Prop} {w0 w : World} {mb bi bu gf gt K kf kt n : Nat} {sa : Option Addr} {ns cs : Nat} {im : List Int} {ud : List Bool} {st : List Int}
end
end Go.Proofs.YtiliimkfobfbnaaGreat
namespace Go.Proofs.YtiliimkfobfbnaaGreat
set_option linter.unusedVariables false
set_option linter.unusedSimpArgs false
def ClS (n : Nat) (ts us : List (List (List Int))) (im : List Int) : Prop := ∀ a b, a < n → b < n → (∃ u, Mp im a u) → (∃ u, Mp im b u) → good ts us im a b
def IsoL (n : Nat) (ts us : List (List (List Int))) (l : List Int) : Prop := l.length = n ∧ ∃ p, Iso n ts us p ∧ ∀ a, a < n → Mp l a (p a)
def ExL (n : Nat) (im l : List Int) : Prop := ∀ a v, a < n → Mp im a v → Mp l a v
def YS (n : Nat) (ts us : List (List (List Int))) (im : List Int) (Y : List (List Int)) : Prop := Y.Nodup ∧ ∀ l, l ∈ Y ↔ IsoL n ts us l ∧ ExL n im l
section
variable {n : Nat} {ts us : List (List (List Int))} {im st im' st' : List Int} {ud ud' : List Bool}
theorem IsoL.ext {l l' : List Int} (h : l.length = n) (h' : l'.length = n) (e : ∀ a, a < n → ∃ v, Mp l a v ∧ Mp l' a v) : l = l' := by
  apply List.ext_getElem (by rw [h, h'])
  intro a h1 h2
  obtain ⟨v, q1, q2⟩ := e a (by omega)
  unfold Mp at q1 q2
  rw [List.getD_eq_getElem?_getD, List.getElem?_eq_getElem h1, Option.getD_some] at q1
  rw [List.getD_eq_getElem?_getD, List.getElem?_eq_getElem h2, Option.getD_some] at q2
  omega
end
end Go.Proofs.YtiliimkfobfbnaaGreat
namespace Go.Proofs.YtiliimkfobfbnaaGreat
set_option maxRecDepth 100000
set_option linter.unusedVariables false
set_option linter.unusedSimpArgs false
open Go.RowKit
theorem MapSt.none (n : Nat) : MapSt n (List.replicate n (-1)) (List.replicate n false) [] := by
  have h1 : ∀ a, a < n → (List.replicate n (-1 : Int)).getD a 0 = -1 := fun a ha => by simp [List.getD_eq_getElem?_getD, List.getElem?_replicate, ha]
  have h2 : ∀ a, a < n → (List.replicate n false).getD a false = false := fun a ha => by simp [List.getD_eq_getElem?_getD, List.getElem?_replicate, ha]
  have h3 : ∀ a v, a < n → ¬ Mp (List.replicate n (-1)) a v := fun a v ha q => by unfold Mp at q; rw [h1 a ha] at q; omega
  refine ⟨by simp, by simp, fun a ha => .inl (h1 a ha), fun a b v ha _ q _ => absurd q (h3 a v ha), fun v hv => ?_, fun x hx => (by simp at hx), fun a ha => ?_, by simp⟩
  · rw [h2 v hv]
    exact ⟨(fun q => by cases q), fun ⟨a, ha, q⟩ => absurd q (h3 a v ha)⟩
  · exact ⟨(fun q => by simp at q), fun ⟨v, q⟩ => absurd q (h3 a v ha)⟩
theorem ClS.none (n : Nat) (ts us : List (List (List Int))) : ClS n ts us (List.replicate n (-1)) := fun a b ha _ ma _ => by
  obtain ⟨u, q⟩ := ma
  unfold Mp at q
  rw [show (List.replicate n (-1 : Int)).getD a 0 = -1 by simp [List.getD_eq_getElem?_getD, List.getElem?_replicate, ha]] at q
  omega
def YA (n : Nat) (ts us : List (List (List Int))) (Y : List (List Int)) : Prop := Y.Nodup ∧ ∀ l, l ∈ Y ↔ IsoL n ts us l
theorem YA.of {n : Nat} {ts us : List (List (List Int))} {Y : List (List Int)} (h : YS n ts us (List.replicate n (-1)) Y) : YA n ts us Y := by
  refine ⟨h.1, fun l => ?_⟩
  rw [h.2 l]
  refine ⟨fun q => q.1, fun q => ⟨q, fun a v ha hm => ?_⟩⟩
  unfold Mp at hm
  rw [show (List.replicate n (-1 : Int)).getD a 0 = -1 by simp [List.getD_eq_getElem?_getD, List.getElem?_replicate, ha]] at hm
  omega
attribute [local go_sem] Oper.semAt_some
theorem TB.one {S0 : Nat → Prop} {w1 W : World} {g n c : Nat} {t : List (List Int)} {A O C : Nat → Nat} {b off : Nat} (hG : Grid w1 b off A O C n t) (hs : Sq n t) (hL : Loc W g #[.slice (some ⟨b, off, none⟩) n c] 24) (hB : Below w1.heap.size w1 W) (hg : ¬ S0 g) (hS : ∀ q, S0 q → w1.heap.size ≤ q) :
    TB S0 W g 1 n (fun _ => b) (fun _ => off) (fun _ => c) (fun _ => A) (fun _ => O) (fun _ => C) [t] := by
  refine ⟨rfl, fun w' hm k hk => ?_, fun w' hm k hk => ?_, fun k hk => ?_⟩
  · obtain rfl : k = 0 := by omega
    have : Loc w' g #[.slice (some ⟨b, off, none⟩) n c] 24 := (hm.block g hL.lt hg).trans hL
    exact this.one.1
  · obtain rfl : k = 0 := by omega
    exact hG.below (hB.trans (hm.lowb hS hB.size))
  · obtain rfl : k = 0 := by omega
    exact hs
end Go.Proofs.YtiliimkfobfbnaaGreat
