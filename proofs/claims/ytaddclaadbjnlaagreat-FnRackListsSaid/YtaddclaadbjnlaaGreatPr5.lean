/-
  Walks and plain laws of this seat, some texts in one.
  No condition but bounds on lengths.
-/
import Derived.Test.YtaddclaadbjnlaaGreatPr3
import Derived.Test.YtaddclaadbjnlaaGreatPr4
import Derived.Test.YtaddclaadbjnlaaGreatPr1
namespace Go.Proofs.YtaddclaadbjnlaaGreat
set_option maxRecDepth 100000
set_option linter.unusedVariables false
set_option linter.unusedSimpArgs false
open Go.RowKit
theorem info_tabs : (Tryz.prog.info? 32).map (fun i => (i.zero, i.size, i.bytes)) = some (some (.slice none 0 0), 1, 24) := by kernel_rfl
theorem und_tabs : Tryz.prog.underlying 70 = some (.slice 32) := by kernel_rfl
abbrev TV : Type := SV × List SV
def tvO : TV := (svO, [])
def slT (u : TV) : Value := sl u.1
def TvS (u : TV) (g : Nat) : Prop := TblS u.1.1 u.1.2.1 u.2 g
def OwnV (w : World) (lo : Nat) (u : TV) (t : List (List Int)) : Prop := OwnT w lo u.1.1 u.1.2.1 u.1.2.2 u.2 t
structure OwnTT (w : World) (lo : Nat) (a : Option Addr) (n c : Nat) (us : List TV) (ts : List (List (List Int))) : Prop where
  len : n = ts.length
  ulen : us.length = n
  hdr : w.ownsRow lo 32 1 (.slice a n c) n (us.map slT)
  tab : ∀ i, i < n → OwnV w lo (us.getD i tvO) (ts.getD i [])
  ap : ∀ i, i < n → ∀ g, a = some ⟨g, 0, none⟩ → ¬ TvS (us.getD i tvO) g
  pw : ∀ i j, i < n → j < n → i ≠ j → ∀ g, TvS (us.getD i tvO) g → ¬ TvS (us.getD j tvO) g
def TTS (a : Option Addr) (n : Nat) (us : List TV) (g : Nat) : Prop := a = some ⟨g, 0, none⟩ ∨ ∃ i, i < n ∧ TvS (us.getD i tvO) g
section
variable {w w' : World} {lo : Nat} {a : Option Addr} {n c : Nat} {us : List TV} {ts : List (List (List Int))}
theorem OwnTT.nil (w : World) (lo : Nat) : OwnTT w lo none 0 0 [] [] :=
  ⟨rfl, rfl, World.ownsRow_nil w lo _ 1, fun i h => absurd h (by omega), fun i h => absurd h (by omega), fun i j h => absurd h (by omega)⟩
theorem OwnTT.block (h : OwnTT w lo a n c us ts) : (a = none ∧ n = 0 ∧ c = 0) ∨ ∃ g cur, a = some ⟨g, 0, none⟩ ∧ lo ≤ g ∧ Loc w g cur 32 ∧ n ≤ c ∧ c ≤ maxLen ∧ cur.size = c ∧ cur.toList.take n = us.map slT := by
  rcases h.hdr.2 with ⟨h1, h2⟩ | ⟨g, cap, cur, h1, h2, h3, h4, h5, h6, h7⟩
  · cases h1; exact .inl ⟨rfl, rfl, rfl⟩
  · cases h1; exact .inr ⟨g, cur, rfl, h2, h3, h4, h5, by simpa using h6, by simpa using h7⟩
theorem ownsRowT_mk {w : World} {lo g n c : Nat} {us : List TV} {cur : Array Value} (hn : us.length = n) (h1 : lo ≤ g) (h2 : Loc w g cur 32) (h3 : n ≤ c) (h4 : c ≤ maxLen) (h5 : cur.size = c) (h6 : cur.toList.take n = us.map slT) :
    w.ownsRow lo 32 1 (.slice (some ⟨g, 0, none⟩) n c) n (us.map slT) :=
  ⟨by simp [hn], .inr ⟨g, c, cur, rfl, h1, h2, h3, h4, by simpa using h5, by simpa using h6⟩⟩
theorem OwnTT.high (h : OwnTT w lo a n c us ts) : ∀ g, a = some ⟨g, 0, none⟩ → g < w.heap.size := by
  intro g hg
  rcases h.block with ⟨h1, _⟩ | ⟨g', cur, h1, h2, h3, _⟩
  · rw [h1] at hg; cases hg
  · rw [h1] at hg; cases hg; exact h3.lt
theorem OwnTT.low (h : OwnTT w lo a n c us ts) : ∀ g, a = some ⟨g, 0, none⟩ → lo ≤ g := by
  intro g hg
  rcases h.block with ⟨h1, _⟩ | ⟨g', cur, h1, h2, h3, _⟩
  · rw [h1] at hg; cases hg
  · rw [h1] at hg; cases hg; exact h2
theorem OwnTT.uLo (h : OwnTT w lo a n c us ts) : ∀ g, TTS a n us g → lo ≤ g := fun g hg => by
  rcases hg with hg | ⟨i, hi, hg⟩
  · exact h.low g hg
  · exact (h.tab i hi).uLo g hg
theorem OwnTT.uHi (h : OwnTT w lo a n c us ts) : ∀ g, TTS a n us g → g < w.heap.size := fun g hg => by
  rcases hg with hg | ⟨i, hi, hg⟩
  · exact h.high g hg
  · exact (h.tab i hi).uHi g hg
theorem OwnTT.keep (h : OwnTT w lo a n c us ts) (hk : ∀ g, TTS a n us g → g < w.heap.size → w'.heap[g]? = w.heap[g]?) : OwnTT w' lo a n c us ts := by
  refine ⟨h.len, h.ulen, ?_, fun i hi => OwnT.keep (h.tab i hi) fun g hg hlt => hk g (.inr ⟨i, hi, hg⟩) hlt, h.ap, h.pw⟩
  rcases h.block with ⟨h1, h2, h3⟩ | ⟨g, cur, h1, h2, h3, h4, h5, h6, h7⟩
  · subst h1 h2 h3
    have : us = [] := List.eq_nil_of_length_eq_zero h.ulen
    subst this; exact World.ownsRow_nil _ _ _ _
  · subst h1
    exact ownsRowT_mk h.ulen h2 ((hk g (.inl rfl) h3.lt).trans h3) h4 h5 h6 h7
theorem OwnTT.below (h : OwnTT w lo a n c us ts) (hb : Below w.heap.size w w') : OwnTT w' lo a n c us ts := h.keep fun g _ hlt => hb.block g hlt
theorem OwnTT.alloc (h : OwnTT w lo a n c us ts) (o : Obj) : OwnTT (w.alloc o) lo a n c us ts := h.below ((Below.refl _ _).alloc (Nat.le_refl _) o)
theorem OwnTT.drewN (h : OwnTT w lo a n c us ts) (k : Nat) : OwnTT (w.drewN k) lo a n c us ts := h.keep fun _ _ _ => rfl
theorem OwnTT.mono {lo' : Nat} (h : OwnTT w lo a n c us ts) (hl : lo' ≤ lo) : OwnTT w lo' a n c us ts := by
  refine ⟨h.len, h.ulen, ?_, fun i hi => (h.tab i hi).mono hl, h.ap, h.pw⟩
  rcases h.block with ⟨h1, h2, h3⟩ | ⟨g, cur, h1, h2, h3, h4, h5, h6, h7⟩
  · subst h1 h2 h3
    have : us = [] := List.eq_nil_of_length_eq_zero h.ulen
    subst this; exact World.ownsRow_nil _ _ _ _
  · subst h1; exact ownsRowT_mk h.ulen (Nat.le_trans hl h2) h3 h4 h5 h6 h7
theorem OwnTT.setlo (h : OwnTT w lo a n c us ts) {p : Addr} (hp : p.block < lo) (u : Value) : OwnTT (w.setCell p u) lo a n c us ts :=
  h.keep fun g hg _ => Below.heap_setCell _ _ _ _ (by have := h.uLo g hg; omega)
theorem OwnTT.marked (h : OwnTT w lo a n c us ts) {S : Nat → Prop} (hm : Marked S w w') (hS : ∀ g, TTS a n us g → ¬ S g) : OwnTT w' lo a n c us ts := h.keep fun g hg hlt => hm.block g hlt (hS g hg)
theorem OwnTT.cap (h : OwnTT w lo a n c us ts) : n ≤ c ∧ c ≤ 9223372036854775807 := by
  rcases h.block with ⟨_, h1, h2⟩ | ⟨g', cur, h1, h2, h3, h4, h5, _⟩
  · omega
  · unfold maxLen at h5; omega
theorem OwnTT.cells (h : OwnTT w lo a n c us ts) (hn : 0 < n) : ∃ g, a = some ⟨g, 0, none⟩ ∧ g < w.heap.size ∧ (∀ i, i < n → w.cell? ⟨g, i, none⟩ = some (slT (us.getD i tvO))) ∧ ∀ i, w.frozen? ⟨g, i, none⟩ = false := by
  rcases h.block with ⟨h1, h2, h3⟩ | ⟨g, cur, h1, h2, h3, h4, h5, h6, h7⟩
  · omega
  · refine ⟨g, h1, h3.lt, fun i hi => h3.cell i ?_, fun i => h3.free i⟩
    have hx : (cur.toList.take n)[i]? = (us.map slT)[i]? := by rw [h7]
    have hxi : i < us.length := by have := h.ulen; omega
    rw [List.getElem?_take, if_pos hi] at hx
    simp [List.getElem?_eq_getElem hxi] at hx
    simp [List.getD_eq_getElem?_getD, List.getElem?_eq_getElem hxi, hx]
theorem OwnTT.ownBlk (h : OwnTT w lo a n c us ts) {g : Nat} (e : (Value.slice a n c).ownBlock = some g) : a = some ⟨g, 0, none⟩ := by
  rcases h.block with ⟨r1, _⟩ | ⟨g2, cur, r1, _⟩
  · subst r1; simp [Value.ownBlock] at e
  · subst r1; simp [Value.ownBlock] at e; subst e; rfl
theorem OwnTT.snoc {o : Obj} {g cap : Nat} {u : TV} {t : List (List Int)} (h : OwnTT w lo a n c us ts) (hv : OwnV w lo u t) (h1 : ∀ q, TvS u q → ¬ TTS a n us q)
    (ho : w'.ownsRow lo 32 1 (.slice (some ⟨g, 0, none⟩) (n + 1) cap) (n + 1) (us.map slT ++ [slT u]))
    (hg : w.grownBy w' (Value.slice a n c).ownBlock) (hat : (Value.slice a n c).ownBlock = some g ∨ w.heap.size ≤ g) : OwnTT w' lo (some ⟨g, 0, none⟩) (n + 1) cap (us ++ [u]) (ts ++ [t]) := by
  have hl := h.len
  have hul := h.ulen
  have gl : ∀ i, i < n → (us ++ [u]).getD i tvO = us.getD i tvO := fun i hi => by simp [List.getD_eq_getElem?_getD, List.getElem?_append_left (show i < us.length by omega)]
  have gn : (us ++ [u]).getD n tvO = u := by rw [← hul]; simp [List.getD_eq_getElem?_getD]
  have xl : ∀ i, i < n → (ts ++ [t]).getD i [] = ts.getD i [] := fun i hi => by simp [List.getD_eq_getElem?_getD, List.getElem?_append_left (show i < ts.length by omega)]
  have xn : (ts ++ [t]).getD n [] = t := by rw [hl]; simp [List.getD_eq_getElem?_getD]
  have keepR : ∀ i, i < n → OwnV w' lo (us.getD i tvO) (ts.getD i []) := fun i hi => OwnT.keep (h.tab i hi) fun q hq hlt => hg.block q hlt fun e => h.ap i hi q (h.ownBlk e.symm) hq
  have keepV : OwnV w' lo u t := OwnT.keep hv fun q hq hlt => hg.block q hlt fun e => h1 q hq (.inl (h.ownBlk e.symm))
  refine ⟨by simp [hl], by simp [hul], by simpa using ho, fun i hi => ?_, fun i hi q hq hs => ?_, fun i j hi hj hij q h3 h4 => ?_⟩
  · by_cases e : i < n
    · rw [gl i e, xl i e]; exact keepR i e
    · obtain rfl : i = n := by omega
      rw [gn, xn]; exact keepV
  · cases hq
    by_cases e : i < n
    · rw [gl i e] at hs
      rcases hat with hat | hat
      · exact h.ap i e g (h.ownBlk hat) hs
      · have := (h.tab i e).uHi g hs; omega
    · obtain rfl : i = n := by omega
      rw [gn] at hs
      rcases hat with hat | hat
      · exact h1 g hs (.inl (h.ownBlk hat))
      · have := OwnT.uHi hv g hs; omega
  · by_cases e : i < n
    · rw [gl i e] at h3
      by_cases e' : j < n
      · rw [gl j e'] at h4; exact h.pw i j e e' hij q h3 h4
      · obtain rfl : j = n := by omega
        rw [gn] at h4; exact h1 q h4 (.inr ⟨i, e, h3⟩)
    · obtain rfl : i = n := by omega
      rw [gn] at h3
      have e' : j < i := by omega
      rw [gl j e'] at h4; exact h1 q h3 (.inr ⟨j, e', h4⟩)
theorem TTS.snoc {u : TV} {g q : Nat} (hl : us.length = n) (h : TTS (some ⟨g, 0, none⟩) (n + 1) (us ++ [u]) q) : q = g ∨ TvS u q ∨ TTS a n us q := by
  rcases h with e | ⟨i, hi, e⟩
  · cases e; exact .inl rfl
  · by_cases hin : i < n
    · have : (us ++ [u]).getD i tvO = us.getD i tvO := by simp [List.getD_eq_getElem?_getD, List.getElem?_append_left (show i < us.length by omega)]
      rw [this] at e
      exact .inr (.inr (.inr ⟨i, hin, e⟩))
    · obtain rfl : i = n := by omega
      have : (us ++ [u]).getD i tvO = u := by rw [← hl]; simp [List.getD_eq_getElem?_getD]
      rw [this] at e
      exact .inr (.inl e)
theorem Marked.grownTT (h : OwnTT w lo a n c us ts) (hg : w.grownBy w' (Value.slice a n c).ownBlock) : Marked (TTS a n us) w w' :=
  ⟨hg.os, hg.tape, hg.output, hg.size, fun k hk hs => hg.block k hk (fun e => hs (.inl (h.ownBlk e.symm)))⟩
end
theorem wp_appTT {o : Oper} {a : Act} {K : Act → World → Prop} {Q : Exit → Act → World → Prop} {w : World} {s x : Operand}
    (ho : o.op = .call { callee := .builtin .append, args := #[s, x], argTypes := #[70, 70] }) {lo : Nat} {ad : Option Addr} {n c : Nat} {us : List TV} {ts : List (List (List Int))} (hown : OwnTT w lo ad n c us ts) (hs : a.eval s = .slice ad n c)
    {va : Option Addr} {vn vc : Nat} {vv : List SV} {t : List (List Int)} {ty : TypeId} (hv : OwnT w lo va vn vc vv t) (h1 : ∀ q, TblS va vn vv q → ¬ TTS ad n us q) (hx : a.eval x = .slice (some ⟨w.heap.size, 0, none⟩) 1 1) (hlen : n + 1 ≤ 1000000000000) (hlo : lo ≤ w.heap.size)
    (h : ∀ g c' w', OwnTT w' lo (some ⟨g, 0, none⟩) (n + 1) c' (us ++ [((va, vn, vc), vv)]) (ts ++ [t]) → w.grownBy w' (Value.slice ad n c).ownBlock → ((Value.slice ad n c).ownBlock = some g ∨ w.heap.size ≤ g) → Below lo w w' → K (a.put o.dst (.slice (some ⟨g, 0, none⟩) (n + 1) c')) w') :
    Oper.wp Tryz.prog o a (w.alloc (.cells #[.slice va vn vc] ty)) K Q := by
  obtain ⟨i0, hi, hz0, hz1, hz2⟩ := info_parts info_tabs
  refine wp_append_lies _ s x 70 ho lo 32 i0 (.slice none 0 0) 1 24 und_tabs hi hz0 hz1 hz2 rfl (by decide) _ n (us.map slT) hs (hown.hdr.alloc _) ⟨w.heap.size, 0, none⟩ 1 1 [.slice va vn vc] hx rfl (cell_one_new _ _ _) ?_ (by omega) ?_ ?_ ?_ (w.heap.size + 1) (by simp) ?_
  · intro u hu; simp at hu; subst hu; rfl
  · unfold maxLen; omega
  · omega
  · simp; omega
  · intro g cap w' ho' hg hat hlt
    have hg' : w.grownBy w' (Value.slice ad n c).ownBlock := by
      have h1 := World.grownBy_alloc w (.cells #[.slice va vn vc] ty) (Value.slice ad n c).ownBlock
      exact ⟨hg.os.trans h1.os, hg.tape.trans h1.tape, hg.output.trans h1.output, Nat.le_trans h1.size hg.size, fun k hk hn => (hg.block k (Nat.lt_of_lt_of_le hk h1.size) hn).trans (h1.block k hk hn)⟩
    have hat' : (Value.slice ad n c).ownBlock = some g ∨ w.heap.size ≤ g := by
      rcases hat with hat | hat
      · exact .inl hat
      · exact .inr (by omega)
    exact h g cap w' (hown.snoc (o := .cells #[] ty) (u := ((va, vn, vc), vv)) hv h1 ho' hg' hat') hg' hat' ((Below.refl _ _).grown hg' hlo (fun k hk => (World.ownsRow.lt hown.hdr k hk).1))
theorem appTT {ops : Array Oper} {rest : List Oper} {o : Oper} {a : Act} {Q : Exit → Act → World → Prop} {w : World} (hgd : o.guard = none) {s x : Operand}
    (ho : o.op = .call { callee := .builtin .append, args := #[s, x], argTypes := #[70, 70] }) {lo : Nat} {ad : Option Addr} {n c : Nat} {us : List TV} {ts : List (List (List Int))} (hown : OwnTT w lo ad n c us ts) (hs : a.eval s = .slice ad n c)
    {va : Option Addr} {vn vc : Nat} {vv : List SV} {t : List (List Int)} {ty : TypeId} (hv : OwnT w lo va vn vc vv t) (h1 : ∀ q, TblS va vn vv q → ¬ TTS ad n us q) (hx : a.eval x = .slice (some ⟨w.heap.size, 0, none⟩) 1 1) (hlen : n + 1 ≤ 1000000000000) (hlo : lo ≤ w.heap.size)
    (h : ∀ g c' w', OwnTT w' lo (some ⟨g, 0, none⟩) (n + 1) c' (us ++ [((va, vn, vc), vv)]) (ts ++ [t]) → w.grownBy w' (Value.slice ad n c).ownBlock → ((Value.slice ad n c).ownBlock = some g ∨ w.heap.size ≤ g) → Below lo w w' → wpList Tryz.prog ops Q rest (a.put o.dst (.slice (some ⟨g, 0, none⟩) (n + 1) c')) w') :
    wpList Tryz.prog ops Q (o :: rest) a (w.alloc (.cells #[.slice va vn vc] ty)) :=
  wpList_plain hgd fun _ hK => wp_appTT ho hown hs hv h1 hx hlen hlo fun g c' w' a b c d => hK _ _ (h g c' w' a b c d)
theorem step_appTTn {ops : Array Oper} {o : Oper} {a : Act} {K : Act → World → Prop} {Q : Exit → Act → World → Prop} {E : Prop} {w : World} (hgd : o.guard = none) {s x : Operand}
    (ho : o.op = .call { callee := .builtin .append, args := #[s, x], argTypes := #[70, 70] }) {lo : Nat} {ad : Option Addr} {n c : Nat} {us : List TV} {ts : List (List (List Int))} (hown : OwnTT w lo ad n c us ts) (hs : a.eval s = .slice ad n c)
    {va : Option Addr} {vn vc : Nat} {vv : List SV} {t : List (List Int)} {ty : TypeId} (hv : OwnT w lo va vn vc vv t) (h1 : ∀ q, TblS va vn vv q → ¬ TTS ad n us q) (hx : a.eval x = .slice (some ⟨w.heap.size, 0, none⟩) 1 1) (hlen : n + 1 ≤ 1000000000000) (hlo : lo ≤ w.heap.size)
    (h : ∀ g c' w', OwnTT w' lo (some ⟨g, 0, none⟩) (n + 1) c' (us ++ [((va, vn, vc), vv)]) (ts ++ [t]) → w.grownBy w' (Value.slice ad n c).ownBlock → ((Value.slice ad n c).ownBlock = some g ∨ w.heap.size ≤ g) → Below lo w w' → K (a.put o.dst (.slice (some ⟨g, 0, none⟩) (n + 1) c')) w') :
    if Region.wanted o (yielded ops a.tmps) = true then Oper.wp Tryz.prog o a (w.alloc (.cells #[.slice va vn vc] ty)) K Q else E := by
  have hw : Region.wanted o (yielded ops a.tmps) = true := by simp [Region.wanted, hgd]
  rw [if_pos hw]
  exact wp_appTT ho hown hs hv h1 hx hlen hlo h
end Go.Proofs.YtaddclaadbjnlaaGreat

namespace Go.Proofs.YtaddclaadbjnlaaGreat
set_option maxRecDepth 100000
set_option linter.unusedVariables false
set_option linter.unusedSimpArgs false
open Go.RowKit
def frs : List (List Int) → Nat
  | [] => 0
  | r :: o => if r.isEmpty then 0 else frs o + 1
theorem frs_eq : ∀ (o : List (List Int)) (k : Nat), (∀ i, i < k → o.getD i [] ≠ []) → k ≤ o.length → (k = o.length ∨ o.getD k [] = []) → frs o = k := by
  intro o
  induction o with
  | nil => intro k _ h _; simp at h; subst h; rfl
  | cons r o ih =>
    intro k h1 h2 h3
    unfold frs
    cases k with
    | zero =>
      rcases h3 with h3 | h3
      · simp at h3
      · simp at h3; subst h3; simp
    | succ k =>
      have h0 : r ≠ [] := by simpa using h1 0 (by omega)
      have : r.isEmpty = false := by cases r with
        | nil => exact absurd rfl h0
        | cons _ _ => rfl
      rw [this]
      have := ih k (fun i hi => by simpa using h1 (i + 1) (by omega)) (by simpa using h2) (by rcases h3 with h3 | h3; exact .inl (by simpa using h3); exact .inr (by simpa using h3))
      simp [this]
def rckG (ps : List (List Int)) : Nat → List (List Int) → List (List (List Int))
  | 0, o => [o]
  | m + 1, o => if frs o = o.length then [o] else ps.flatMap fun p => match sprL (o.set (frs o) p) with | none => [] | some o' => rckG ps m o'
def rckN (n : Nat) : List (List (List Int)) := rckG (prmL n) n (List.replicate n [])
def rckP (ps : List (List Int)) (m : Nat) (o : List (List Int)) (k : Nat) : List (List (List Int)) := (ps.take k).flatMap fun p => match sprL (o.set (frs o) p) with | none => [] | some o' => rckG ps m o'
theorem rckP_succ (ps : List (List Int)) (m : Nat) (o : List (List Int)) {k : Nat} (h : k < ps.length) : rckP ps m o (k + 1) = rckP ps m o k ++ match sprL (o.set (frs o) (ps.getD k [])) with | none => [] | some o' => rckG ps m o' := by
  unfold rckP
  rw [List.take_succ_eq_append_getElem h, List.flatMap_append]
  simp [List.getD_eq_getElem?_getD, List.getElem?_eq_getElem h]
theorem rckG_bd (ps : List (List Int)) (hp : 0 < ps.length) : ∀ (m : Nat) (o : List (List Int)), (rckG ps m o).length ≤ ps.length ^ m := by
  intro m
  induction m with
  | zero => intro o; simp [rckG]
  | succ m ih =>
    intro o
    unfold rckG
    have hpos : 0 < ps.length ^ m := Nat.pow_pos hp
    split
    · rw [Nat.pow_succ]
      have : 1 ≤ ps.length ^ m * ps.length := Nat.mul_pos hpos hp
      simpa using this
    · have : ∀ k, k ≤ ps.length → (rckP ps m o k).length ≤ k * ps.length ^ m := by
        intro k
        induction k with
        | zero => intro _; simp [rckP]
        | succ k ihk =>
          intro hk
          rw [rckP_succ ps m o (by omega), List.length_append, Nat.add_mul, Nat.one_mul]
          have := ihk (by omega)
          split
          · simp; omega
          · rename_i o' _; have := ih o'; omega
      have h := this ps.length (Nat.le_refl _)
      unfold rckP at h
      rw [List.take_length] at h
      rw [Nat.pow_succ, Nat.mul_comm]
      exact h
theorem rckP_le (ps : List (List Int)) (hp : 0 < ps.length) (m : Nat) (o : List (List Int)) : ∀ k, k ≤ ps.length → (rckP ps m o k).length ≤ k * ps.length ^ m := by
  intro k
  induction k with
  | zero => intro _; simp [rckP]
  | succ k ihk =>
    intro hk
    rw [rckP_succ ps m o (by omega), List.length_append, Nat.add_mul, Nat.one_mul]
    have := ihk (by omega)
    split
    · simp; omega
    · rename_i o' _; have := rckG_bd ps hp m o'; omega
theorem empC_pos {o : List (List Int)} {k : Nat} (hk : k < o.length) (h : o.getD k [] = []) : 0 < empC o := by
  unfold empC
  rw [List.countP_pos_iff]
  refine ⟨o[k], List.getElem_mem hk, ?_⟩
  rw [List.getD_eq_getElem?_getD, List.getElem?_eq_getElem hk] at h
  simp at h; simp [h]
def GrTT (E : Nat → Prop) (w : World) (lo : Nat) (a : Option Addr) (n : Nat) (us : List TV) (ts : List (List (List Int))) (e : Ending) (w' : World) : Prop :=
  ∃ a' n' c' us', e = .returned (.slice a' n' c') ∧ OwnTT w' lo a' n' c' us' ts ∧ Marked (TTS a n us) w w' ∧ ∀ g, TTS a' n' us' g → TTS a n us g ∨ E g ∨ w.heap.size ≤ g
theorem GrTT.one {w w' : World} {E : Nat → Prop} {lo : Nat} {a : Option Addr} {n c : Nat} {us : List TV} {ts : List (List (List Int))} {g c' : Nat} {u : TV} {t : List (List Int)} (h : OwnTT w lo a n c us ts) (hg : w.grownBy w' (Value.slice a n c).ownBlock) (hat : (Value.slice a n c).ownBlock = some g ∨ w.heap.size ≤ g)
    (hO : OwnTT w' lo (some ⟨g, 0, none⟩) (n + 1) c' (us ++ [u]) (ts ++ [t])) (hE : ∀ q, TvS u q → E q) : GrTT E w lo a n us (ts ++ [t]) (.returned (.slice (some ⟨g, 0, none⟩) (n + 1) c')) w' := by
  refine ⟨_, _, _, _, rfl, hO, Marked.grownTT h hg, fun q hq => ?_⟩
  rcases TTS.snoc (a := a) h.ulen hq with rfl | h' | h'
  · rcases hat with h2 | h2
    · exact .inl (.inl (h.ownBlk h2))
    · exact .inr (.inr h2)
  · exact .inr (.inl (hE q h'))
  · exact .inl h'
set_option maxHeartbeats 16000000 in
theorem l19Grow_any (n lo P : Nat) (ps : List (List Int)) (hn0 : 0 < n) (hn : n ≤ 12) (hP : 0 < P) (hPb : P ≤ 1000000) (hps : ∀ i, i < P → IsP n (ps.getD i [])) : ∀ (m : Nat) (o : List (List Int)) (pa : Option Addr) (pc : Nat) (pvs : List SV) (ra : Option Addr) (rc : Nat) (rvs : List SV) (a : Option Addr) (k c : Nat) (us : List TV) (ts : List (List (List Int))) (w : World),
    OwnT w lo pa P pc pvs ps → OwnT w lo ra n rc rvs o → RwsOk n o → empC o ≤ m → OwnTT w lo a k c us ts → (∀ g, TblS pa P pvs g → ¬ TTS a k us g) → (∀ g, TblS ra n rvs g → ¬ TTS a k us g) → lo ≤ w.heap.size → k + P ^ m ≤ 1000000000 →
    Calls Tryz.prog 123 #[.slice pa P pc, .slice ra n rc, .slice a k c] w (GrTT (TblS ra n rvs) w lo a k us (ts ++ rckG ps m o)) := by
  intro m
  induction m with
  | zero =>
    intro o pa pc pvs ra rc rvs a k c us ts w hp hr hok hem ht hap har hlo hk
    have HAP := Lib.hid hap; have HAR := Lib.hid har; have HOK := Lib.hid hok; have HEM := Lib.hid hem; have HK := Lib.hid hk; have HPS := Lib.hid hps
    have hlo2 := hlo
    clear hap har hok hem hk
    go_enter Tryz.func123, Tryz.ntmps123
    go_wp2
    go_loop [7] (fun i => ∃ x : Nat, x ≤ n ∧ i = .int .i64 x ∧ Hid (∀ i, i < x → o.getD i [] ≠ [])) (fun i => n - (intOf i).toNat)
    case atStart => exact ⟨0, Nat.zero_le _, rfl, Lib.hid fun i hi => absurd hi (by omega)⟩
    case round =>
      obtain ⟨x, hx, rfl, HX⟩ := hrel
      by_cases hlt : x < n
      · obtain ⟨b, off, ax, nx, cx, rfl, g1, r1, l1⟩ := hr.tbl.at x hlt
        rcases HOK.out.2 x hlt with he | hpx
        · obtain rfl : 0 = nx := by have := r1.len; rw [he] at this; simpa using this.symm
          exact absurd (empC_pos (by have := HOK.out.1; omega) he) (by have := HEM.out; omega)
        · obtain rfl : n = nx := by have := r1.len; rw [hpx.len] at this; exact this.symm
          have HX1 : Hid (∀ i, i < x + 1 → o.getD i [] ≠ []) := Lib.hid fun i hi => by
            by_cases e : i = x
            · subst e; exact IsP.ne hn0 hpx
            · exact HX.out i (by omega)
          clear hpx
          go_wp2
          go_round
          case rel => exact ⟨x + 1, by omega, by go_num, HX1⟩
          case measure => simp [intOf]; omega
      · obtain rfl : n = x := by omega
        have HF : Hid (frs o = n) := Lib.hid (frs_eq o n HX.out (by have := HOK.out.1; omega) (.inl HOK.out.1.symm))
        have hq1 : ((n : Int) == (n : Int)) = true := by simp
        have HG : Hid (rckG ps 0 o = [o]) := Lib.hid rfl
        go_wp2_with (at_builtin; refine appTT rfl rfl ht rfl hr HAR.out rfl (by have := HK.out; omega) hlo ?_; intro g' cc w8 hO hg8 hat8 hb8)
        go_ret
        rw [HG.out]
        exact GrTT.one ht hg8 hat8 hO fun q hq => hq
  | succ m ih =>
    intro o pa pc pvs ra rc rvs a k c us ts w hp hr hok hem ht hap har hlo hk
    have IH := Lib.hid ih
    have HAP := Lib.hid hap; have HAR := Lib.hid har; have HOK := Lib.hid hok; have HEM := Lib.hid hem; have HK := Lib.hid hk; have HPS := Lib.hid hps
    have hlo2 := hlo
    clear ih hap har hok hem hk
    go_enter Tryz.func123, Tryz.ntmps123
    go_wp2
    go_loop [7] (fun i => ∃ x : Nat, x ≤ n ∧ i = .int .i64 x ∧ Hid (∀ i, i < x → o.getD i [] ≠ [])) (fun i => n - (intOf i).toNat)
    case atStart => exact ⟨0, Nat.zero_le _, rfl, Lib.hid fun i hi => absurd hi (by omega)⟩
    case round =>
      obtain ⟨x, hx, rfl, HX⟩ := hrel
      by_cases hlt : x < n
      · obtain ⟨b, off, ax, nx, cx, rfl, g1, r1, l1⟩ := hr.tbl.at x hlt
        rcases HOK.out.2 x hlt with he | hpx
        · obtain rfl : 0 = nx := by have := r1.len; rw [he] at this; simpa using this.symm
          have HF : Hid (frs o = x) := Lib.hid (frs_eq o x HX.out (by have := HOK.out.1; omega) (.inr he))
          have hq1 : ((x : Int) == (n : Int)) = false := by simp; omega
          have hem1 := empC_pos (by have := HOK.out.1; omega) he
          have hset := fun p (hp : IsP n p) => empC_set (o := o) (z := x) (r := p) (by have := HOK.out.1; omega) he (IsP.ne hn0 hp)
          have HST := Lib.hid hset
          have HE : Hid (rckP ps m o P = rckG ps (m + 1) o) := Lib.hid (by
            unfold rckG rckP
            rw [if_neg (by rw [HF.out]; have := HOK.out.1; omega), hp.tbl.len, List.take_length])
          have HPL := Lib.hid hp.tbl.len
          have HRS := Lib.hid (fun j (h : j < ps.length) => rckP_succ ps m o h)
          have HRB := Lib.hid (rckP_le ps (by have := hp.tbl.len; omega) m o)
          have HN : Hid (∀ j, j < P → k + j * P ^ m + P ^ m ≤ 1000000000) := Lib.hid fun j hj => by
            have h1 : (j + 1) * P ^ m ≤ P * P ^ m := Nat.mul_le_mul_right _ hj
            rw [Nat.add_mul, Nat.one_mul] at h1
            have h2 := HK.out
            rw [Nat.pow_succ, Nat.mul_comm] at h2
            omega
          have HKL := Lib.hid ht.len
          clear he hset hem1
          go_wp2
          go_loopw [2, 8, 9, 10, 11] (fun s2 i _ _ _ wr => ∃ (j : Nat) (a' : Option Addr) (k' c' : Nat) (us' : List TV), j ≤ P ∧ i = .int .i64 j ∧ s2 = .slice a' k' c' ∧ OwnTT wr lo a' k' c' us' (ts ++ rckP ps m o j) ∧ Marked (TTS a k us) w wr ∧ Hid (∀ g, TTS a' k' us' g → TTS a k us g ∨ w.heap.size ≤ g)) (fun _ i _ _ _ _ => P - (intOf i).toNat)
          case atStart => exact ⟨0, a, k, c, us, Nat.zero_le _, rfl, rfl, by simpa [rckP] using ht, Marked.refl _ _, Lib.hid fun g h => .inl h⟩
          case round =>
            obtain ⟨j, a', k', c', us', hj, rfl, rfl, ht', hM, HSUB⟩ := hrel
            by_cases hjP : j < P
            · have hp' := hp.uKeep hM HAP.out
              have hr' := hr.uKeep hM HAR.out
              have hwr := hM.size
              have hk' : k' + P ^ m ≤ 1000000000 := by
                have h1 := ht'.len
                rw [List.length_append] at h1
                have h3 := HRB.out j (by have := HPL.out; omega)
                have h2 := HN.out j hjP
                have h5 := HKL.out
                have h4 : ps.length ^ m = P ^ m := by rw [← HPL.out]
                rw [h4] at h3
                omega
              have hlen : ∀ r ∈ o, r.length ≤ 1000000 := fun r hr => by
                obtain ⟨i, hi, rfl⟩ := List.getElem_of_mem hr
                have := HOK.out.2 i (by have := HOK.out.1; omega)
                rw [List.getD_eq_getElem?_getD, List.getElem?_eq_getElem hi] at this
                rcases this with h | h
                · simp at h; rw [h]; simp
                · have := h.len; simp at this; omega
              have HT := HRS.out j (by have := HPL.out; omega)
              rw [HF.out] at HT
              have HTT := Lib.hid HT
              clear HT
              go_wp2_with fail
              refine (l01Own2_any _ n _ o _ hr'.tbl (by omega) hlen).mono ?_
              rintro e w3 ⟨a3, c3, vs3, rfl, ho3, hb3⟩
              obtain ⟨g3, rfl, hg3, hcell3, hfree3⟩ := ho3.cells hn0
              have hgl3 := ho3.low g3 rfl
              have c3x := hcell3 x hlt
              have f3x := hfree3 x
              obtain ⟨bp, op, ap, np, cp, rfl, gp, rp, lp⟩ := (hp'.below hb3).tbl.at j hjP
              have hpp := HPS.out j hjP
              obtain rfl : n = np := by have := rp.len; rw [hpp.len] at this; exact this.symm
              obtain ⟨p, HPP⟩ : ∃ p, Hid (ps.getD j [] = p) := ⟨_, rfl⟩
              rw [HPP.out] at rp hpp HTT
              clear hcell3 hfree3
              go_wp2_with fail
              refine (l01Own_any _ n cp p _ rp (by omega)).mono ?_
              rintro e w4 ⟨a4, c4, rfl, ho4, hb4⟩
              have c4x := (hb4.cell (p := ⟨g3, x, none⟩) hg3).trans c3x
              have f4x := (hb4.frozen (p := ⟨g3, x, none⟩) hg3).trans f3x
              have hPut := (ho3.below hb4).put x hlt (v := (a4, n, c4)) (ho4.mono hb3.size) (fun e => by have := ho4.lo g3 e; omega) (fun i hi _ g' h1 h2 => by have := ho4.lo g' h1; have := ho3.uHi g' (.inr ⟨i, hi, h2⟩); omega)
              have hok2 := HOK.out.set x (.inr hpp)
              have hb34 := hb3.trans (hb4.mono hb3.size)
              have hb5 := below_setne (a := ⟨g3, x, none⟩) hb34 (by show wr.heap.size ≤ g3; exact hgl3) (.slice a4 n c4)
              have hz34 := hb34.size
              go_wp2_with fail
              refine (l19Spread_any n _ _ (o.set x p) _ hPut.tbl hn0 hn hok2).mono ?_
              rintro e w6 (⟨o', a6, c6, vs6, hse, rfl, ho6, hb6⟩ | ⟨hse, rfl, hb6⟩)
              · have hb56 : Below wr.heap.size wr w6 := hb5.trans (hb6.mono (by rw [size_set]; exact hz34))
                have hz6 := hb56.size
                have hso : sprF n (n + 1) (o.set x p) = some o' := by
                  have := hse; unfold sprL at this; rw [hok2.1] at this; exact this
                have hs1 := sprF_ok hn0 _ _ _ hok2 hso
                have hs2 := HST.out p hpp
                have hs3 := HEM.out
                rw [hse] at HTT
                clear hso hse
                have hz7 : wr.heap.size ≤ (w4.setCell ⟨g3, x, none⟩ (.slice a4 n c4)).heap.size := by rw [size_set]; exact hz34
                go_wp2_with fail
                refine (IH.out o' _ pc pvs a6 c6 vs6 a' k' c' us' _ w6 (hp'.below hb56) (ho6.mono (by omega)) hs1.1 (by omega) (ht'.below hb56) (fun g h1 h2 => ?_) (fun g h1 h2 => by have := ho6.uLo g h1; have := ht'.uHi g h2; omega) (by omega) hk').mono ?_
                · rcases HSUB.out g h2 with h3 | h3
                  · exact HAP.out g h1 h3
                  · have := hp.uHi g h1; omega
                rintro e w9 ⟨a9, k9, c9, us9, rfl, ht9, hM9, hsub9⟩
                go_wp2
                go_roundw
                case rel =>
                  refine ⟨j + 1, a9, k9, c9, us9, by omega, by go_num, rfl, by rw [HTT.out, ← List.append_assoc]; exact ht9, (hM.then (Marked.ofB (S := fun _ => False) hb56) (fun _ h => h.elim)).then hM9 HSUB.out, Lib.hid fun g hg => ?_⟩
                  rcases hsub9 g hg with h | h | h
                  · exact HSUB.out g h
                  · exact .inr (by have := ho6.uLo g h; omega)
                  · exact .inr (by omega)
                case measure => simp [intOf]; omega
              · have hb56 : Below wr.heap.size wr w6 := hb5.trans (hb6.mono (by rw [size_set]; exact hz34))
                rw [hse] at HTT
                have HTN : Hid (rckP ps m o (j + 1) = rckP ps m o j) := Lib.hid (by rw [HTT.out]; simp)
                clear hse
                go_wp2
                go_roundw
                case rel => exact ⟨j + 1, a', k', c', us', by omega, by go_num, rfl, by rw [HTN.out]; exact ht'.below hb56, hM.then (Marked.ofB (S := fun _ => False) hb56) (fun _ h => h.elim), HSUB⟩
                case measure => simp [intOf]; omega
            · obtain rfl : P = j := by omega
              go_wp2
              go_ret
              exact ⟨a', k', c', us', rfl, by rw [← HE.out]; exact ht', hM, fun g hg => (HSUB.out g hg).elim .inl (fun h => .inr (.inr h))⟩
        · obtain rfl : n = nx := by have := r1.len; rw [hpx.len] at this; exact this.symm
          have HX1 : Hid (∀ i, i < x + 1 → o.getD i [] ≠ []) := Lib.hid fun i hi => by
            by_cases e : i = x
            · subst e; exact IsP.ne hn0 hpx
            · exact HX.out i (by omega)
          clear hpx
          go_wp2
          go_round
          case rel => exact ⟨x + 1, by omega, by go_num, HX1⟩
          case measure => simp [intOf]; omega
      · obtain rfl : n = x := by omega
        have HF : Hid (frs o = n) := Lib.hid (frs_eq o n HX.out (by have := HOK.out.1; omega) (.inl HOK.out.1.symm))
        have hq1 : ((n : Int) == (n : Int)) = true := by simp
        have HG : Hid (rckG ps (m + 1) o = [o]) := Lib.hid (by unfold rckG; rw [HF.out, if_pos HOK.out.1.symm])
        go_wp2_with (at_builtin; refine appTT rfl rfl ht rfl hr HAR.out rfl (by have := HK.out; omega) hlo ?_; intro g' cc w8 hO hg8 hat8 hb8)
        go_ret
        rw [HG.out]
        exact GrTT.one ht hg8 hat8 hO fun q hq => hq
theorem TTS.nil {g : Nat} : ¬ TTS none 0 [] g := by
  rintro (h | ⟨i, hi, _⟩)
  · cases h
  · omega
theorem repl_ok (n : Nat) : RwsOk n (List.replicate n []) := ⟨by simp, fun i hi => .inl (by simp [List.getD_eq_getElem?_getD, List.getElem?_replicate, hi])⟩
theorem repl_emp (n : Nat) : empC (List.replicate n []) = n := by simp [empC, List.countP_replicate]
theorem prm_fin : ∀ n : Fin 5, 1 ≤ n.1 → ((prmL n.1).length ≤ 24 ∧ 0 < (prmL n.1).length ∧ ∀ p ∈ prmL n.1, p.length = n.1 ∧ (∀ x ∈ p, 0 ≤ x ∧ x < (n.1 : Int)) ∧ p.Nodup) := by decide +kernel
end Go.Proofs.YtaddclaadbjnlaaGreat

namespace Go.Proofs.YtaddclaadbjnlaaGreat
set_option maxRecDepth 100000
set_option linter.unusedVariables false
set_option linter.unusedSimpArgs false
open Go.RowKit
set_option maxHeartbeats 400000 in
theorem sEqual_any (a1 a2 : Option Addr) (n1 n2 c1 c2 : Nat) (xs ys : List Int) (w : World) (h1 : Row w a1 n1 xs) (h2 : Row w a2 n2 ys) (hm : n1 ≤ 9223372036854775807) :
    Calls Tryz.prog 92 #[.slice a1 n1 c1, .slice a2 n2 c2] w fun e w' => e = .returned (.bool (decide (xs = ys))) ∧ ∃ n, w' = w.drewN n := by
  have hl1 := h1.len
  have hl2 := h2.len
  by_cases hl : n1 = n2
  · subst hl
    have HL := Lib.hid hl1; have HL2 := Lib.hid hl2; clear hl1 hl2
    have hb : ((n1 : Int) != (n1 : Int)) = false := by simp
    go_enter Tryz.func92, Tryz.ntmps92
    go_wp2
    clear hb
    go_loopw [13] (fun i wr => ∃ k : Nat, k ≤ n1 ∧ i = .int .i64 k ∧ xs.take k = ys.take k ∧ ∃ n, wr = w.drewN n) (fun i _ => n1 - (intOf i).toNat)
    case atStart => exact ⟨0, Nat.zero_le _, rfl, by simp, 0, rfl⟩
    case round =>
      obtain ⟨k, hk, rfl, ht, n, rfl⟩ := hrel
      have HT := Lib.hid ht; clear ht
      by_cases hlt : k < n1
      · obtain ⟨b1, o1, rfl, g1⟩ := h1.at k hlt
        obtain ⟨b2, o2, rfl, g2⟩ := h2.at k hlt
        have hx : k < xs.length := by have := HL.out; omega
        have hy : k < ys.length := by have := HL2.out; omega
        clear h1 h2
        go_wp2
        go_quiet (fail)
        go_wp2
        · go_ret
          refine ⟨ret_bool ?_, n + nq, by rw [World.drewN_drewN]⟩
          rename_i hne
          simp only [Bool.false_eq, decide_eq_false_iff_not]
          rintro rfl
          simp at hne
        · go_roundw
          case rel =>
            rename_i hne
            refine ⟨k + 1, by omega, by go_num, take_eq_succ hx hy HT.out (by simpa using hne), n + nq, rfl⟩
          case measure => simp [intOf]; omega
      · obtain rfl : k = n1 := by omega
        go_wp2
        go_ret
        refine ⟨ret_bool ?_, _, rfl⟩
        have := HT.out
        rw [List.take_of_length_le (by have := HL.out; omega), List.take_of_length_le (by have := HL2.out; omega)] at this
        simp [this]
  · have hb : ((n1 : Int) != (n2 : Int)) = true := by simp; omega
    have hne : ¬ xs = ys := by rintro rfl; omega
    clear hl1 hl2
    go_enter Tryz.func92, Tryz.ntmps92
    go_wp2
    go_ret
    exact ⟨ret_bool (by simp [hne]), 0, rfl⟩
end Go.Proofs.YtaddclaadbjnlaaGreat
