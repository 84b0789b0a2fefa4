/-
  The reference's list of pairs of tables: a header that the call owns, and tables that nothing writes.
  No condition.
-/
import Derived.Test.YthgafpeblpnolaaGreatBase3
namespace Go.Proofs.YthgafpeblpnolaaGreat
set_option maxRecDepth 100000
set_option linter.unusedVariables false
set_option linter.unusedSimpArgs false
open Go.RowKit

/-- one pair of tables, with all blocks below -/
structure LEl (w : World) (v : SV) (us : List TV) (p : List (List Int) × List (List Int)) : Prop where
  own : OwnTT w 0 v.1 2 v.2.2 us [p.1, p.2]
  len : v.2.1 = 2
structure LsT (w : World) (lo : Nat) (a : Option Addr) (n c : Nat) (vs : List SV) (uss : List (List TV)) (L : List (List (List Int) × List (List Int))) : Prop where
  hd : Hq w lo a n c vs
  len : n = L.length
  ulen : uss.length = n
  el : ∀ i, i < n → LEl w (vs.getD i svO) (uss.getD i []) (L.getD i ([], []))
  ap : ∀ i, i < n → ∀ g, a = some ⟨g, 0, none⟩ → ¬ TTS (vs.getD i svO).1 2 (uss.getD i []) g
section
variable {w w' : World} {lo : Nat} {a : Option Addr} {n c : Nat} {vs : List SV} {uss : List (List TV)} {L : List (List (List Int) × List (List Int))} {v : SV} {us : List TV} {p : List (List Int) × List (List Int)}
theorem LEl.below (h : LEl w v us p) (hb : Below w.heap.size w w') : LEl w' v us p := ⟨h.own.below hb, h.len⟩
theorem LsT.below (h : LsT w lo a n c vs uss L) (hb : Below w.heap.size w w') : LsT w' lo a n c vs uss L := ⟨h.hd.below hb, h.len, h.ulen, fun i hi => (h.el i hi).below hb, h.ap⟩
theorem LsT.mono {lo' : Nat} (h : LsT w lo a n c vs uss L) (hl : lo' ≤ lo) : LsT w lo' a n c vs uss L := ⟨h.hd.mono hl, h.len, h.ulen, h.el, h.ap⟩
theorem LsT.fresh (w : World) {b : Nat} (hb : b = w.heap.size) : LsT (w.alloc (.cells #[] 67)) w.heap.size (some ⟨b, 0, none⟩) 0 0 [] [] [] :=
  ⟨Hq.fresh w hb, rfl, rfl, fun i h => absurd h (by omega), fun i h => absurd h (by omega)⟩
theorem LsT.blk (h : LsT w lo a n c vs uss L) : ∀ q, (Value.slice a n c).ownBlock = some q → a = some ⟨q, 0, none⟩ := fun q hq => by
  rcases h.hd.block with ⟨h1, h2, h3⟩ | ⟨g', cur, h1, _⟩
  · rw [h1] at hq; cases hq
  · rw [h1] at hq; simp [Value.ownBlock] at hq; subst hq; exact h1
/-- one more pair -/
theorem LsT.snoc {g cap : Nat} (h : LsT w lo a n c vs uss L) (hv : LEl w v us p) (hne : ∀ q, a = some ⟨q, 0, none⟩ → ¬ TTS v.1 2 us q)
    (ho : Hq w' lo (some ⟨g, 0, none⟩) (n + 1) cap (vs ++ [v])) (hg : w.grownBy w' (Value.slice a n c).ownBlock) (hat : (Value.slice a n c).ownBlock = some g ∨ w.heap.size ≤ g) : LsT w' lo (some ⟨g, 0, none⟩) (n + 1) cap (vs ++ [v]) (uss ++ [us]) (L ++ [p]) := by
  have hob := h.blk
  have hl := h.len
  have hvl := h.hd.1
  have hul := h.ulen
  have gl : ∀ i, i < n → (vs ++ [v]).getD i svO = vs.getD i svO := fun i hi => by simp [List.getD_eq_getElem?_getD, List.getElem?_append_left (show i < vs.length by omega)]
  have gn : (vs ++ [v]).getD n svO = v := by rw [← hvl]; simp [List.getD_eq_getElem?_getD]
  have ul : ∀ i, i < n → (uss ++ [us]).getD i [] = uss.getD i [] := fun i hi => by simp [List.getD_eq_getElem?_getD, List.getElem?_append_left (show i < uss.length by omega)]
  have un : (uss ++ [us]).getD n [] = us := by rw [← hul]; simp [List.getD_eq_getElem?_getD]
  have yl : ∀ i, i < n → (L ++ [p]).getD i ([], []) = L.getD i ([], []) := fun i hi => by simp [List.getD_eq_getElem?_getD, List.getElem?_append_left (show i < L.length by omega)]
  have yn : (L ++ [p]).getD n ([], []) = p := by rw [hl]; simp [List.getD_eq_getElem?_getD]
  have keep : ∀ (u : SV) (z : List TV) (q : List (List Int) × List (List Int)), LEl w u z q → (∀ b, a = some ⟨b, 0, none⟩ → ¬ TTS u.1 2 z b) → LEl w' u z q := fun u z q hu hne => ⟨hu.own.keep fun b hb hlt => hg.block b hlt fun e => hne b (hob b e.symm) hb, hu.len⟩
  refine ⟨ho, by simp [hl], by simp [hul], fun i hi => ?_, fun i hi q hq => ?_⟩
  · by_cases e : i < n
    · rw [gl i e, yl i e, ul i e]; exact keep _ _ _ (h.el i e) (h.ap i e)
    · obtain rfl : i = n := by omega
      rw [gn, yn, un]; exact keep _ _ _ hv hne
  · cases hq
    have fin : ∀ (u : SV) (z : List TV) (q : List (List Int) × List (List Int)), LEl w u z q → (∀ b, a = some ⟨b, 0, none⟩ → ¬ TTS u.1 2 z b) → ¬ TTS u.1 2 z g := fun u z q hu hne e => by
      rcases hat with hat | hat
      · exact hne g (hob g hat) e
      · have := hu.own.uHi g e; omega
    by_cases e : i < n
    · rw [gl i e, ul i e]; exact fin _ _ _ (h.el i e) (h.ap i e)
    · obtain rfl : i = n := by omega
      rw [gn, un]; exact fin _ _ _ hv hne
/-- a literal of two tables -/
theorem LEl.lit {b : Nat} (hb : b = w.heap.size) {a1 a2 : Option Addr} {n1 c1 n2 c2 : Nat} {v1 v2 : List SV} {t1 t2 : List (List Int)} (h1 : OwnT w 0 a1 n1 c1 v1 t1) (h2 : OwnT w 0 a2 n2 c2 v2 t2) (hd : ∀ g, TblS a1 n1 v1 g → ¬ TblS a2 n2 v2 g) :
    LEl (w.alloc (.cells #[.slice a1 n1 c1, .slice a2 n2 c2] 22)) (some ⟨b, 0, none⟩, 2, 2) [((a1, n1, c1), v1), ((a2, n2, c2), v2)] (t1, t2) := by
  refine ⟨⟨rfl, rfl, ownsRowT_mk rfl (Nat.zero_le _) (Loc.new w hb _ _) (Nat.le_refl _) (by show 2 ≤ maxLen; unfold maxLen; omega) rfl rfl, fun i hi => ?_, fun i hi g hg => ?_, fun i j hi hj hij g hg => ?_⟩, rfl⟩
  · match i, hi with
    | 0, _ => exact h1.alloc _
    | 1, _ => exact h2.alloc _
  · cases hg
    match i, hi with
    | 0, _ => intro hs; have := h1.uHi _ hs; omega
    | 1, _ => intro hs; have := h2.uHi _ hs; omega
  · match i, j, hi, hj with
    | 0, 0, _, _ => exact absurd rfl hij
    | 0, 1, _, _ => exact hd g hg
    | 1, 0, _, _ => exact fun h => hd g h hg
    | 1, 1, _, _ => exact absurd rfl hij
end
end Go.Proofs.YthgafpeblpnolaaGreat
