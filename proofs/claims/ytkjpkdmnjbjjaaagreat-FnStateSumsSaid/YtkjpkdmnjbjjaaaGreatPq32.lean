/-
  Walks and plain laws of this seat, some texts in one.
  No condition but bounds on lengths.
-/
import Derived.Test.YtkjpkdmnjbjjaaaGreatPq31
import Derived.Test.YtkjpkdmnjbjjaaaGreatPq2
import Derived.Test.YtkjpkdmnjbjjaaaGreatPq5
import Derived.Test.YtkjpkdmnjbjjaaaGreatPq1
import Derived.BigRegion
import Derived.Test.YtkjpkdmnjbjjaaaGreatPq4
import Derived.Deep.LoopGhost
import Derived.Test.YtkjpkdmnjbjjaaaGreatPq6
import Derived.Test.YtkjpkdmnjbjjaaaGreatPq7
import Derived.Laws.IdiomCopy
import Derived.Lib.SliceRun
import Derived.Test.YtkjpkdmnjbjjaaaGreatPq3
import Derived.Test.YtkjpkdmnjbjjaaaGreatPq30
import Derived.Test.YtkjpkdmnjbjjaaaGreatPq20
namespace Go.Proofs.YtkjpkdmnjbjjaaaGreat
set_option linter.unusedVariables false
set_option linter.unusedSimpArgs false
inductive Wd (n : Nat) : Pm → List Int → Prop
  | nil : Wd n Pm.one []
  | cons (q : Pm) (k : Nat) (ws : List Int) : St q k → Wd n ((Pm.s k).m q) ws → Wd n q (((k : Int) + 1) :: ws)
theorem plN_suc (k : Nat) : plN ((k : Int) + 1) = k := by unfold plN; rw [if_neg (by omega)]; omega
theorem act_suc (n : Nat) (s : Stt) (k : Nat) : actS n s ((k : Int) + 1) = (s.1, s.2 ++ [Pm.s k]) := by unfold actS; rw [if_pos (by omega), plN_suc]
theorem wd_ltr {n : Nat} {q : Pm} {ws : List Int} (h : Wd n q ws) : Fx n q → ∀ x ∈ ws, Ltr n x := by
  induction h with
  | nil => intro _ x hx; simp at hx
  | cons q k ws hs _ ih =>
    intro hq x hx
    have hk := hq.st hs
    rcases List.mem_cons.1 hx with e | e
    · rw [e]; exact ⟨by omega, by rw [plN_suc]; exact hk⟩
    · exact ih ((Fx.s hk).m hq) x e
theorem wd_sim {n : Nat} {q : Pm} {ws : List Int} (h : Wd n q ws) : Fx n q → ∀ s : Stt, AFx n s.2 → Sim n (begS n s ws) (s.1, s.2 ++ [q]) := by
  induction h with
  | nil => intro _ s hs; exact (sim_one n s.1 s.2).symm
  | cons q k ws hst _ ih =>
    intro hq s hs
    have hk := hq.st hst
    have hf := Fx.s (n := n) hk
    have hL : AFx n (s.2 ++ [Pm.s k]) := hs.app fun p hp => by simp at hp; rw [hp]; exact hf
    have h1 := ih (hf.m hq) (s.1, s.2 ++ [Pm.s k]) hL
    have e1 : begS n s (((k : Int) + 1) :: ws) = begS n (s.1, s.2 ++ [Pm.s k]) ws := by
      show begS n (actS n s ((k : Int) + 1)) ws = _
      rw [act_suc]
    rw [e1]
    have h2 : Sim n (s.1, (s.2 ++ [Pm.s k]) ++ [(Pm.s k).m q]) (s.1, (s.2 ++ [q]) ++ [Pm.one]) := Sim.of (by
      have := (letter_join hq hst).ctx s.2 []
      simpa using this)
    have hq1 : AFx n (s.2 ++ [q]) := hs.app fun p hp => by simp at hp; rw [hp]; exact hq
    have hA : AFx n ((s.2 ++ [Pm.s k]) ++ [(Pm.s k).m q]) := hL.app fun p hp => by simp at hp; rw [hp]; exact hf.m hq
    have hB : AFx n ((s.2 ++ [q]) ++ [Pm.one]) := hq1.app fun p hp => by simp at hp; rw [hp]; exact Fx.one n
    exact Sim.trans hA h1 (Sim.trans hB h2 (sim_one n s.1 (s.2 ++ [q])))
end Go.Proofs.YtkjpkdmnjbjjaaaGreat

namespace Go.Proofs.YtkjpkdmnjbjjaaaGreat
set_option maxRecDepth 100000
set_option linter.unusedVariables false
set_option linter.unusedSimpArgs false
structure Rep (n : Nat) (G : Type) where
  mul : G → G → G
  one : G
  assoc : ∀ a b c, mul (mul a b) c = mul a (mul b c)
  one_mul : ∀ a, mul one a = a
  mul_one : ∀ a, mul a one = a
  s : Nat → G
  t : Nat → G
  st : ∀ k, k + 1 < n → mul (s k) (t k) = one
  ts : ∀ k, k + 1 < n → mul (t k) (s k) = one
  far : ∀ k l, k + 1 < l → l + 1 < n → mul (s k) (s l) = mul (s l) (s k)
  near : ∀ k, k + 2 < n → mul (s k) (mul (s (k + 1)) (s k)) = mul (s (k + 1)) (mul (s k) (s (k + 1)))
/-! ### lengths -/
def Pm.inv (p : Pm) : Pm := ⟨p.g, p.f, p.gf, p.fg⟩
/-! ### a permutation's element -/
variable {n : Nat} {G : Type} (R : Rep n G)
/-! ### the half twist -/
/-! ### lists -/
/-! ### powers -/
def pw (x : G) : Nat → G
  | 0 => R.one
  | k + 1 => R.mul (pw x k) x
/-! ### states -/
end Go.Proofs.YtkjpkdmnjbjjaaaGreat

namespace Go.Proofs.YtkjpkdmnjbjjaaaGreat
set_option maxRecDepth 100000
set_option linter.unusedVariables false
set_option linter.unusedSimpArgs false
theorem ltr_of {s x : Int} {n : Nat} (hn : s = n) (h : x ≠ 0 ∧ 1 - s ≤ x ∧ x ≤ s - 1) : Ltr n x := by
  refine ⟨h.1, ?_⟩
  unfold plN; split <;> omega
end Go.Proofs.YtkjpkdmnjbjjaaaGreat

namespace Go.Proofs.YtkjpkdmnjbjjaaaGreat
set_option maxRecDepth 100000
set_option linter.unusedVariables false
set_option linter.unusedSimpArgs false
open Go.RowKit
structure FRow (n : Nat) (w : World) (v : SV) (p : Pm) : Prop where
  own : Own w 0 v.1 n v.2.2 (toL n p)
  len : v.2.1 = n
  fx : Fx n p
structure Fac (n : Nat) (w : World) (lo : Nat) (a : Option Addr) (m c : Nat) (vs : List SV) (Y : List Pm) : Prop where
  hd : Hd w lo a m c vs
  len : m = Y.length
  row : ∀ i, i < m → FRow n w (vs.getD i svO) (Y.getD i Pm.one)
  ap : ∀ i, i < m → ∀ g, a = some ⟨g, 0, none⟩ → (vs.getD i svO).1 ≠ some ⟨g, 0, none⟩
section
variable {n : Nat} {w w' : World} {lo : Nat} {a : Option Addr} {m c : Nat} {vs : List SV} {Y : List Pm} {v : SV} {p : Pm}
theorem FRow.below (h : FRow n w v p) (hb : Below w.heap.size w w') : FRow n w' v p := ⟨h.own.below hb, h.len, h.fx⟩
theorem FRow.row (h : FRow n w v p) : Row w v.1 n (toL n p) := h.own.row
theorem Fac.nil (n : Nat) (w : World) (lo : Nat) : Fac n w lo none 0 0 [] [] := ⟨Hd.nil _ _, rfl, fun i h => absurd h (by omega), fun i h => absurd h (by omega)⟩
theorem Fac.fresh (n : Nat) (w : World) {b : Nat} (hb : b = w.heap.size) : Fac n (w.alloc (.cells #[] 35)) w.heap.size (some ⟨b, 0, none⟩) 0 0 [] [] :=
  ⟨Hd.fresh w hb, rfl, fun i h => absurd h (by omega), fun i h => absurd h (by omega)⟩
theorem Fac.below (h : Fac n w lo a m c vs Y) (hb : Below w.heap.size w w') : Fac n w' lo a m c vs Y := ⟨h.hd.below hb, h.len, fun i hi => (h.row i hi).below hb, h.ap⟩
theorem Fac.alloc (h : Fac n w lo a m c vs Y) (o : Obj) : Fac n (w.alloc o) lo a m c vs Y := h.below ((Below.refl _ _).alloc (Nat.le_refl _) o)
theorem Fac.drewN (h : Fac n w lo a m c vs Y) (k : Nat) : Fac n (w.drewN k) lo a m c vs Y := h.below (below_drewN (Below.refl _ _) k)
theorem Fac.mono {lo' : Nat} (h : Fac n w lo a m c vs Y) (hl : lo' ≤ lo) : Fac n w lo' a m c vs Y := ⟨h.hd.mono hl, h.len, h.row, h.ap⟩
theorem Fac.fx (h : Fac n w lo a m c vs Y) : AFx n Y := fun p hp => by
  obtain ⟨i, hi, rfl⟩ := List.getElem_of_mem hp
  have := (h.row i (by have := h.len; omega)).fx
  rw [List.getD_eq_getElem?_getD (l := Y), List.getElem?_eq_getElem hi] at this
  exact this
theorem Fac.cell (h : Fac n w lo a m c vs Y) {i : Nat} (hi : i < m) : ∃ g, a = some ⟨g, 0, none⟩ ∧ g < w.heap.size ∧ w.cell? ⟨g, i, none⟩ = some (sl (vs.getD i svO)) ∧ w.frozen? ⟨g, i, none⟩ = false := by
  rcases h.hd.block with ⟨h1, h2, h3⟩ | ⟨g, cur, h1, h2, h3, h4, h5, h6, h7⟩
  · omega
  · obtain ⟨b, off, e1, e2, e3⟩ := h.hd.read.2 i hi
    rw [h1] at e1; cases e1
    rw [Nat.zero_add] at e3
    exact ⟨g, h1, h3.lt, e3, h3.free i⟩
theorem Fac.tbl (h : Fac n w lo a m c vs Y) (hn : n ≤ 1000) : Tbl w a m (Y.map (toL n)) := by
  refine h.hd.read.tbl (by rw [List.length_map]; exact h.len) fun i hi => ?_
  have hr := h.row i hi
  have hi' : i < Y.length := by have := h.len; omega
  have e : (Y.map (toL n)).getD i [] = toL n (Y.getD i Pm.one) := by
    simp [List.getD_eq_getElem?_getD, List.getElem?_eq_getElem hi']
  rw [e, hr.len]
  exact ⟨hr.row, by omega⟩
theorem Fac.snoc {g cap : Nat} (h : Fac n w lo a m c vs Y) (hv : FRow n w v p) (hne : ∀ q, a = some ⟨q, 0, none⟩ → v.1 ≠ some ⟨q, 0, none⟩)
    (ho : Hd w' lo (some ⟨g, 0, none⟩) (m + 1) cap (vs ++ [v])) (hg : w.grownBy w' (Value.slice a m c).ownBlock) (hat : (Value.slice a m c).ownBlock = some g ∨ w.heap.size ≤ g) : Fac n w' lo (some ⟨g, 0, none⟩) (m + 1) cap (vs ++ [v]) (Y ++ [p]) := by
  have hob : ∀ q, (Value.slice a m c).ownBlock = some q → a = some ⟨q, 0, none⟩ := fun q hq => by
    rcases h.hd.block with ⟨h1, h2, h3⟩ | ⟨g', cur, h1, _⟩
    · rw [h1] at hq; cases hq
    · rw [h1] at hq; simp [Value.ownBlock] at hq; subst hq; exact h1
  have hl := h.len
  have hvl := h.hd.1
  have gl : ∀ i, i < m → (vs ++ [v]).getD i svO = vs.getD i svO := fun i hi => by simp [List.getD_eq_getElem?_getD, List.getElem?_append_left (show i < vs.length by omega)]
  have gn : (vs ++ [v]).getD m svO = v := by rw [← hvl]; simp [List.getD_eq_getElem?_getD]
  have yl : ∀ i, i < m → (Y ++ [p]).getD i Pm.one = Y.getD i Pm.one := fun i hi => by simp [List.getD_eq_getElem?_getD, List.getElem?_append_left (show i < Y.length by omega)]
  have yn : (Y ++ [p]).getD m Pm.one = p := by rw [hl]; simp [List.getD_eq_getElem?_getD]
  have keep : ∀ (u : SV) (q : Pm), FRow n w u q → (∀ b, a = some ⟨b, 0, none⟩ → u.1 ≠ some ⟨b, 0, none⟩) → FRow n w' u q := fun u q hu hne => ⟨hu.own.keep fun b hb hlt => hg.block b hlt fun e => hne b (hob b e.symm) hb, hu.len, hu.fx⟩
  refine ⟨ho, by simp [hl], fun i hi => ?_, fun i hi q hq => ?_⟩
  · by_cases e : i < m
    · rw [gl i e, yl i e]; exact keep _ _ (h.row i e) (h.ap i e)
    · obtain rfl : i = m := by omega
      rw [gn, yn]; exact keep _ _ hv hne
  · cases hq
    have fin : ∀ (u : SV) (q : Pm), FRow n w u q → (∀ b, a = some ⟨b, 0, none⟩ → u.1 ≠ some ⟨b, 0, none⟩) → u.1 ≠ some ⟨g, 0, none⟩ := fun u q hu hne e => by
      rcases hat with hat | hat
      · exact hne g (hob g hat) e
      · have := hu.own.hi g e; omega
    by_cases e : i < m
    · rw [gl i e]; exact fin _ _ (h.row i e) (h.ap i e)
    · obtain rfl : i = m := by omega
      rw [gn]; exact fin _ _ hv hne
theorem Fac.set {g i : Nat} (h : Fac n w lo (some ⟨g, 0, none⟩) m c vs Y) (hi : i < m) (hv : FRow n w v p) (hne : v.1 ≠ some ⟨g, 0, none⟩) : Fac n (w.setCell ⟨g, i, none⟩ (sl v)) lo (some ⟨g, 0, none⟩) m c (vs.set i v) (Y.set i p) := by
  have hvl := h.hd.1
  have hl := h.len
  have keep : ∀ (u : SV) (q : Pm), FRow n w u q → u.1 ≠ some ⟨g, 0, none⟩ → FRow n (w.setCell ⟨g, i, none⟩ (sl v)) u q := fun u q hu hne => ⟨hu.own.keep fun b hb hlt => Below.heap_setCell _ _ _ _ (fun e => hne (by rw [hb, e])), hu.len, hu.fx⟩
  have hap : ∀ k, k < m → (vs.getD k svO).1 ≠ some ⟨g, 0, none⟩ := fun k hk => h.ap k hk g rfl
  refine ⟨?_, by rw [List.length_set]; exact hl, fun k hk => ?_, fun k hk q hq => ?_⟩
  · rcases h.hd.block with ⟨h1, _⟩ | ⟨g', cur, h1, h2, h3, h4, h5, h6, h7⟩
    · cases h1
    · cases h1
      refine ⟨by rw [List.length_set]; exact hvl, ownsRow_mk (by rw [List.length_set]; exact hvl) h2 (h3.set i _) h4 h5 (by simpa using h6) ?_⟩
      rw [Array.toList_setIfInBounds, List.take_set, h7, List.map_set]
  · by_cases e : k = i
    · subst e
      rw [show (vs.set k v).getD k svO = v by simp [List.getD_eq_getElem?_getD, show k < vs.length by omega], show (Y.set k p).getD k Pm.one = p by simp [List.getD_eq_getElem?_getD, show k < Y.length by omega]]
      exact keep _ _ hv hne
    · rw [show (vs.set i v).getD k svO = vs.getD k svO by simp [List.getD_eq_getElem?_getD, List.getElem?_set_ne (fun h => e h.symm)], show (Y.set i p).getD k Pm.one = Y.getD k Pm.one by simp [List.getD_eq_getElem?_getD, List.getElem?_set_ne (fun h => e h.symm)]]
      exact keep _ _ (h.row k hk) (hap k hk)
  · cases hq
    by_cases e : k = i
    · subst e
      rw [show (vs.set k v).getD k svO = v by simp [List.getD_eq_getElem?_getD, show k < vs.length by omega]]; exact hne
    · rw [show (vs.set i v).getD k svO = vs.getD k svO by simp [List.getD_eq_getElem?_getD, List.getElem?_set_ne (fun h => e h.symm)]]; exact hap k hk
end
end Go.Proofs.YtkjpkdmnjbjjaaaGreat

namespace Go.Proofs.YtkjpkdmnjbjjaaaGreat
set_option maxRecDepth 100000
set_option linter.unusedVariables false
set_option linter.unusedSimpArgs false
open Go.RowKit
def Nw (w : World) (a a' : Option Addr) : Prop := a' = a ∨ ∀ g, a' = some ⟨g, 0, none⟩ → w.heap.size ≤ g
end Go.Proofs.YtkjpkdmnjbjjaaaGreat

namespace Go.Proofs.YtkjpkdmnjbjjaaaGreat
set_option maxRecDepth 100000
set_option linter.unusedVariables false
set_option linter.unusedSimpArgs false
open Go.RowKit
theorem FRow.set {n : Nat} {w : World} {u : SV} {q : Pm} {g i : Nat} {x : Value} (hu : FRow n w u q) (hne : u.1 ≠ some ⟨g, 0, none⟩) : FRow n (w.setCell ⟨g, i, none⟩ x) u q :=
  ⟨hu.own.keep fun b hb hlt => Below.heap_setCell _ _ _ _ (fun e => hne (by rw [hb, e])), hu.len, hu.fx⟩
theorem Nw.ne {w : World} {a a' : Option Addr} {g : Nat} (h : Nw w a a') (hg : g < w.heap.size) (hne : a ≠ some ⟨g, 0, none⟩) : a' ≠ some ⟨g, 0, none⟩ := fun e => by
  rcases h with h | h
  · rw [h] at e; exact hne e
  · have := h g e; omega
end Go.Proofs.YtkjpkdmnjbjjaaaGreat

namespace Go.Proofs.YtkjpkdmnjbjjaaaGreat
set_option maxRecDepth 100000
set_option linter.unusedVariables false
set_option linter.unusedSimpArgs false
open Go.RowKit
theorem br_ltr {n : Nat} {xs : List Int} (hb : isBr n xs = true) : 2 ≤ n ∧ n ≤ 6 ∧ xs.length ≤ 30 ∧ ∀ x ∈ xs, Ltr n x := by
  obtain ⟨h26, h30, hlet⟩ := isBr_let hb
  exact ⟨by omega, by omega, h30, fun x hx => ltr_of rfl (hlet x hx)⟩
end Go.Proofs.YtkjpkdmnjbjjaaaGreat

namespace Go.Proofs.YtkjpkdmnjbjjaaaGreat
set_option maxRecDepth 100000
set_option linter.unusedVariables false
set_option linter.unusedSimpArgs false
def FixT (n s : Nat) (f g : List (List Int)) (xs l : List Int) : Prop := l.length = s ∧ Less n l ∧ actL n f g xs l = l
theorem cols_mem {n s : Nat} {f g : List (List Int)} {xs l : List Int} (hn : 1 ≤ n) : l ∈ colsL n s f g xs ↔ FixT n s f g xs l := by
  unfold colsL colsK
  rw [List.mem_map]
  constructor
  · rintro ⟨N, hN, rfl⟩
    have := (List.mem_filter.1 hN).2
    unfold colAt at this
    exact ⟨digL_len n s N, digL_less n s N hn, of_decide_eq_true this⟩
  · rintro ⟨h1, h2, h3⟩
    have hd := digL_num hn h1 h2
    refine ⟨numL n l, List.mem_filter.2 ⟨List.mem_range.2 (by have := numL_lt hn h2; rw [h1] at this; exact this), ?_⟩, hd⟩
    unfold colAt
    rw [hd]
    exact decide_eq_true h3
theorem cols_nd {n s : Nat} {f g : List (List Int)} {xs : List Int} : (colsL n s f g xs).Nodup := by
  unfold colsL colsK
  rw [List.nodup_iff_pairwise_ne, List.pairwise_map]
  refine List.Pairwise.imp_of_mem ?_ (List.Pairwise.filter _ List.pairwise_lt_range)
  intro a b ha hb hab e
  have h1 := numL_dig s a (List.mem_range.1 (List.mem_filter.1 ha).1)
  have h2 := numL_dig s b (List.mem_range.1 (List.mem_filter.1 hb).1)
  rw [e] at h1
  omega
section
variable {n : Nat} {f g : List (List Int)}
theorem step_forth (hn : 1 ≤ n) (hf : Sq n f) (hg : Sq n g) (hc : collOk n f g = true) {x : Int} {l : List Int} (hx : x ≠ 0) (hi : (plc x).toNat + 1 < l.length) (h : Less n l) : stepL n f g x (stepL n f g (-x) l) = l := by
  have := step_back hn hf hg hc (x := -x) (l := l) (by omega) (by rw [plc_neg hx]; exact hi) h
  rw [Int.neg_neg] at this
  exact this
/-! ### one more strand -/
end
end Go.Proofs.YtkjpkdmnjbjjaaaGreat

namespace Go.Proofs.YtkjpkdmnjbjjaaaGreat
set_option linter.unusedVariables false
set_option linter.unusedSimpArgs false
def wtsK (n : Nat) (f g M : List (List Int)) (m : Int) (xs : List Int) (L : List (List Int)) (k : Nat) : List Int := (L.take k).map (wtF n f g M m xs)
section
variable {n s : Nat} {f g M : List (List Int)} {m : Int} {xs : List Int} {L : List (List Int)} {k : Nat}
theorem wtsK_zero : wtsK n f g M m xs L 0 = [] := by simp [wtsK]
theorem wtsK_succ (h : k < L.length) : wtsK n f g M m xs L (k + 1) = wtsK n f g M m xs L k ++ [wtF n f g M m xs (L.getD k [])] := by
  unfold wtsK
  rw [List.take_succ_eq_append_getElem h, List.map_append]
  simp [List.getD_eq_getElem?_getD, List.getElem?_eq_getElem h]
theorem wtsK_all : wtsK n f g M m xs L L.length = L.map (wtF n f g M m xs) := by simp [wtsK]
end
def cwF (f g : List (List Int)) (m : Int) (M : List (List Int)) (s : Int) (xs : List Int) : List Int × Int :=
  if isSol f g then (if isBr s xs then (if isMx f.length m M then (if wtFlt f.length f g M m = [] then (if f.length ^ s.toNat ≤ 5000 then ((colsL f.length s.toNat f g xs).map (wtF f.length f g M m xs), 0) else ([], 3)) else ([], 5)) else ([], 2)) else ([], 1)) else ([], 1)
section
variable {f g M : List (List Int)} {m s : Int} {xs : List Int}
theorem cwF_0 (h : isSol f g = false) : cwF f g m M s xs = ([], 1) := by unfold cwF; rw [h]; rfl
theorem cwF_1 (h : isSol f g = true) (h1 : isBr s xs = false) : cwF f g m M s xs = ([], 1) := by unfold cwF; rw [h, h1]; rfl
theorem cwF_2 (h : isSol f g = true) (h1 : isBr s xs = true) (h2 : isMx f.length m M = false) : cwF f g m M s xs = ([], 2) := by unfold cwF; rw [h, h1, h2]; rfl
theorem cwF_3 (h : isSol f g = true) (h1 : isBr s xs = true) (h2 : isMx f.length m M = true) (h3 : wtFlt f.length f g M m ≠ []) : cwF f g m M s xs = ([], 5) := by unfold cwF; rw [h, h1, h2]; simp [h3]
theorem cwF_4 (h : isSol f g = true) (h1 : isBr s xs = true) (h2 : isMx f.length m M = true) (h3 : wtFlt f.length f g M m = []) (h4 : ¬ f.length ^ s.toNat ≤ 5000) : cwF f g m M s xs = ([], 3) := by unfold cwF; rw [h, h1, h2, h3]; simp; omega
theorem cwF_5 (h : isSol f g = true) (h1 : isBr s xs = true) (h2 : isMx f.length m M = true) (h3 : wtFlt f.length f g M m = []) (h4 : f.length ^ s.toNat ≤ 5000) : cwF f g m M s xs = ((colsL f.length s.toNat f g xs).map (wtF f.length f g M m xs), 0) := by unfold cwF; rw [h, h1, h2, h3]; simp; omega
theorem Cw_len (f g : List (List Int)) (m : Int) (M : List (List Int)) (s : Int) (xs : List Int) : List.length (cwF f g m M s xs).1 ≤ 1000000 := by
  unfold cwF
  split
  · split
    · split
      · split
        · split
          · rename_i h
            simp only [List.length_map]
            have := colsK_len (n := f.length) (s := s.toNat) (f := f) (g := g) (xs := xs) (k := f.length ^ s.toNat)
            unfold colsL
            omega
          · simp
        · simp
      · simp
    · simp
  · simp
theorem cwF_code : (cwF f g m M s xs).2 = 0 → isSol f g = true ∧ isBr s xs = true ∧ isMx f.length m M = true ∧ wtFlt f.length f g M m = [] ∧ f.length ^ s.toNat ≤ 5000 := by
  unfold cwF
  split
  · rename_i h0
    split
    · rename_i h1
      split
      · rename_i h2
        split
        · rename_i h3
          split
          · rename_i h4; intro _; exact ⟨h0, h1, h2, h3, h4⟩
          · intro h; simp at h
        · intro h; simp at h
      · intro h; simp at h
    · intro h; simp at h
  · intro h; simp at h
theorem wtF_bd {n : Nat} {l : List Int} (h : 1 ≤ m) : 0 ≤ wtF n f g M m xs l ∧ wtF n f g M m xs l < m := ⟨Int.emod_nonneg _ (by omega), Int.emod_lt_of_pos _ (by omega)⟩
theorem cwF_bd (h : (cwF f g m M s xs).2 = 0) : (1 ≤ m ∧ m ≤ 12) ∧ ∀ x ∈ (cwF f g m M s xs).1, 0 ≤ x ∧ x < m := by
  obtain ⟨h0, h1, h2, h3, h4⟩ := cwF_code h
  have hm := (isMx_sq h2).1
  refine ⟨hm, ?_⟩
  rw [cwF_5 h0 h1 h2 h3 h4]
  intro x hx
  obtain ⟨l, _, rfl⟩ := List.mem_map.1 hx
  exact wtF_bd hm.1
end
def cntL (m : Nat) (L : List Int) : List Int := L.foldl (fun C x => C.set x.toNat (C.getD x.toNat 0 + 1)) (List.replicate m 0)
theorem cntL_len (m : Nat) (L : List Int) : (cntL m L).length = m := by
  have : ∀ C : List Int, (L.foldl (fun C x => C.set x.toNat (C.getD x.toNat 0 + 1)) C).length = C.length := by
    induction L with
    | nil => intro C; rfl
    | cons x r ih => intro C; rw [List.foldl_cons, ih, List.length_set]
  unfold cntL; rw [this]; simp
theorem cntL_take {m : Nat} {L : List Int} {k : Nat} (h : k < L.length) : cntL m (L.take (k + 1)) = (cntL m (L.take k)).set (L.getD k 0).toNat ((cntL m (L.take k)).getD (L.getD k 0).toNat 0 + 1) := by
  unfold cntL
  rw [List.take_succ_eq_append_getElem h, List.foldl_append]
  simp [List.getD_eq_getElem?_getD, List.getElem?_eq_getElem h]
theorem cntL_bd (m : Nat) (L : List Int) (i : Nat) : 0 ≤ (cntL m L).getD i 0 ∧ (cntL m L).getD i 0 ≤ L.length := by
  have : ∀ (C : List Int) (b : Int), (∀ i, 0 ≤ C.getD i 0 ∧ C.getD i 0 ≤ b) → ∀ i, 0 ≤ (L.foldl (fun C x => C.set x.toNat (C.getD x.toNat 0 + 1)) C).getD i 0 ∧ (L.foldl (fun C x => C.set x.toNat (C.getD x.toNat 0 + 1)) C).getD i 0 ≤ b + L.length := by
    induction L with
    | nil => intro C b h i; have := h i; simpa using this
    | cons x r ih =>
      intro C b h i
      rw [List.foldl_cons]
      have := ih (C.set x.toNat (C.getD x.toNat 0 + 1)) (b + 1) (fun j => by
        have h1 := h j
        have h2 := h x.toNat
        by_cases hj : j < C.length
        · by_cases e : j = x.toNat
          · subst e
            have : (C.set x.toNat (C.getD x.toNat 0 + 1)).getD x.toNat 0 = C.getD x.toNat 0 + 1 := by
              simp [List.getD_eq_getElem?_getD, List.getElem?_set, hj]
            rw [this]; omega
          · have : (C.set x.toNat (C.getD x.toNat 0 + 1)).getD j 0 = C.getD j 0 := by
              simp [List.getD_eq_getElem?_getD, List.getElem?_set, show x.toNat ≠ j from fun q => e q.symm]
            rw [this]; omega
        · have : (C.set x.toNat (C.getD x.toNat 0 + 1)).getD j 0 = 0 := by
            rw [List.getD_eq_getElem?_getD, List.getElem?_eq_none (by rw [List.length_set]; omega)]; rfl
          rw [this]
          omega) i
      rw [List.length_cons]
      push_cast
      omega
  have h := this (List.replicate m 0) 0 (fun j => by
    simp [List.getD_eq_getElem?_getD, List.getElem?_replicate]
    split <;> simp) i
  simpa [cntL] using h
def stF (f g : List (List Int)) (m : Int) (M : List (List Int)) (s : Int) (xs : List Int) : List Int × Int := if (cwF f g m M s xs).2 = 0 then (cntL m.toNat (cwF f g m M s xs).1, 0) else ([], (cwF f g m M s xs).2)
theorem St_len (f g : List (List Int)) (m : Int) (M : List (List Int)) (s : Int) (xs : List Int) : List.length (stF f g m M s xs).1 ≤ 1000000 := by
  unfold stF
  split
  · rename_i h
    have := (cwF_bd h).1
    show List.length (cntL _ _) ≤ _
    rw [cntL_len]; omega
  · simp
end Go.Proofs.YtkjpkdmnjbjjaaaGreat
