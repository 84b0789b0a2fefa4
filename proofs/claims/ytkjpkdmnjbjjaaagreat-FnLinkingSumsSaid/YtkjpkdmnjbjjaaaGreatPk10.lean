/-
  Walks and plain laws of this seat, some texts in one.
  No condition but bounds on lengths.
-/
import Derived.Test.YtkjpkdmnjbjjaaaGreatPk8
import Derived.Test.YtkjpkdmnjbjjaaaGreatPk9
import Derived.Deep.LoopGhost
import Derived.Test.YtkjpkdmnjbjjaaaGreatPk1
import Derived.Test.YtkjpkdmnjbjjaaaGreatPk4
import Derived.Test.YtkjpkdmnjbjjaaaGreatPk3
import Derived.Test.YtkjpkdmnjbjjaaaGreatPk2
import Derived.Laws.IdiomCopy
import Derived.Lib.SliceRun
import Derived.Test.YtkjpkdmnjbjjaaaGreatPk7
import Derived.Deep.AppendSrc
namespace Go.Proofs.YtkjpkdmnjbjjaaaGreat
set_option maxRecDepth 100000
set_option linter.unusedVariables false
set_option linter.unusedSimpArgs false
open Go.RowKit
structure FRow (n : Nat) (w : World) (v : SV) (p : Pm) : Prop where
  own : Own w 0 v.1 n v.2.2 (toL n p)
  len : v.2.1 = n
  fx : Fx n p
structure Fac (n : Nat) (w : World) (lo : Nat) (a : Option Addr) (m c : Nat) (vs : List SV) (Y : List Pm) : Prop where
  hd : Hd w lo a m c vs
  len : m = Y.length
  row : ∀ i, i < m → FRow n w (vs.getD i svO) (Y.getD i Pm.one)
  ap : ∀ i, i < m → ∀ g, a = some ⟨g, 0, none⟩ → (vs.getD i svO).1 ≠ some ⟨g, 0, none⟩
section
variable {n : Nat} {w w' : World} {lo : Nat} {a : Option Addr} {m c : Nat} {vs : List SV} {Y : List Pm} {v : SV} {p : Pm}
theorem FRow.below (h : FRow n w v p) (hb : Below w.heap.size w w') : FRow n w' v p := ⟨h.own.below hb, h.len, h.fx⟩
theorem FRow.row (h : FRow n w v p) : Row w v.1 n (toL n p) := h.own.row
theorem Fac.nil (n : Nat) (w : World) (lo : Nat) : Fac n w lo none 0 0 [] [] := ⟨Hd.nil _ _, rfl, fun i h => absurd h (by omega), fun i h => absurd h (by omega)⟩
theorem Fac.fresh (n : Nat) (w : World) {b : Nat} (hb : b = w.heap.size) : Fac n (w.alloc (.cells #[] 35)) w.heap.size (some ⟨b, 0, none⟩) 0 0 [] [] :=
  ⟨Hd.fresh w hb, rfl, fun i h => absurd h (by omega), fun i h => absurd h (by omega)⟩
theorem Fac.below (h : Fac n w lo a m c vs Y) (hb : Below w.heap.size w w') : Fac n w' lo a m c vs Y := ⟨h.hd.below hb, h.len, fun i hi => (h.row i hi).below hb, h.ap⟩
theorem Fac.alloc (h : Fac n w lo a m c vs Y) (o : Obj) : Fac n (w.alloc o) lo a m c vs Y := h.below ((Below.refl _ _).alloc (Nat.le_refl _) o)
theorem Fac.drewN (h : Fac n w lo a m c vs Y) (k : Nat) : Fac n (w.drewN k) lo a m c vs Y := h.below (below_drewN (Below.refl _ _) k)
theorem Fac.mono {lo' : Nat} (h : Fac n w lo a m c vs Y) (hl : lo' ≤ lo) : Fac n w lo' a m c vs Y := ⟨h.hd.mono hl, h.len, h.row, h.ap⟩
theorem Fac.fx (h : Fac n w lo a m c vs Y) : AFx n Y := fun p hp => by
  obtain ⟨i, hi, rfl⟩ := List.getElem_of_mem hp
  have := (h.row i (by have := h.len; omega)).fx
  rw [List.getD_eq_getElem?_getD (l := Y), List.getElem?_eq_getElem hi] at this
  exact this
theorem Fac.cell (h : Fac n w lo a m c vs Y) {i : Nat} (hi : i < m) : ∃ g, a = some ⟨g, 0, none⟩ ∧ g < w.heap.size ∧ w.cell? ⟨g, i, none⟩ = some (sl (vs.getD i svO)) ∧ w.frozen? ⟨g, i, none⟩ = false := by
  rcases h.hd.block with ⟨h1, h2, h3⟩ | ⟨g, cur, h1, h2, h3, h4, h5, h6, h7⟩
  · omega
  · obtain ⟨b, off, e1, e2, e3⟩ := h.hd.read.2 i hi
    rw [h1] at e1; cases e1
    rw [Nat.zero_add] at e3
    exact ⟨g, h1, h3.lt, e3, h3.free i⟩
theorem Fac.tbl (h : Fac n w lo a m c vs Y) (hn : n ≤ 1000) : Tbl w a m (Y.map (toL n)) := by
  refine h.hd.read.tbl (by rw [List.length_map]; exact h.len) fun i hi => ?_
  have hr := h.row i hi
  have hi' : i < Y.length := by have := h.len; omega
  have e : (Y.map (toL n)).getD i [] = toL n (Y.getD i Pm.one) := by
    simp [List.getD_eq_getElem?_getD, List.getElem?_eq_getElem hi']
  rw [e, hr.len]
  exact ⟨hr.row, by omega⟩
theorem Fac.snoc {g cap : Nat} (h : Fac n w lo a m c vs Y) (hv : FRow n w v p) (hne : ∀ q, a = some ⟨q, 0, none⟩ → v.1 ≠ some ⟨q, 0, none⟩)
    (ho : Hd w' lo (some ⟨g, 0, none⟩) (m + 1) cap (vs ++ [v])) (hg : w.grownBy w' (Value.slice a m c).ownBlock) (hat : (Value.slice a m c).ownBlock = some g ∨ w.heap.size ≤ g) : Fac n w' lo (some ⟨g, 0, none⟩) (m + 1) cap (vs ++ [v]) (Y ++ [p]) := by
  have hob : ∀ q, (Value.slice a m c).ownBlock = some q → a = some ⟨q, 0, none⟩ := fun q hq => by
    rcases h.hd.block with ⟨h1, h2, h3⟩ | ⟨g', cur, h1, _⟩
    · rw [h1] at hq; cases hq
    · rw [h1] at hq; simp [Value.ownBlock] at hq; subst hq; exact h1
  have hl := h.len
  have hvl := h.hd.1
  have gl : ∀ i, i < m → (vs ++ [v]).getD i svO = vs.getD i svO := fun i hi => by simp [List.getD_eq_getElem?_getD, List.getElem?_append_left (show i < vs.length by omega)]
  have gn : (vs ++ [v]).getD m svO = v := by rw [← hvl]; simp [List.getD_eq_getElem?_getD]
  have yl : ∀ i, i < m → (Y ++ [p]).getD i Pm.one = Y.getD i Pm.one := fun i hi => by simp [List.getD_eq_getElem?_getD, List.getElem?_append_left (show i < Y.length by omega)]
  have yn : (Y ++ [p]).getD m Pm.one = p := by rw [hl]; simp [List.getD_eq_getElem?_getD]
  have keep : ∀ (u : SV) (q : Pm), FRow n w u q → (∀ b, a = some ⟨b, 0, none⟩ → u.1 ≠ some ⟨b, 0, none⟩) → FRow n w' u q := fun u q hu hne => ⟨hu.own.keep fun b hb hlt => hg.block b hlt fun e => hne b (hob b e.symm) hb, hu.len, hu.fx⟩
  refine ⟨ho, by simp [hl], fun i hi => ?_, fun i hi q hq => ?_⟩
  · by_cases e : i < m
    · rw [gl i e, yl i e]; exact keep _ _ (h.row i e) (h.ap i e)
    · obtain rfl : i = m := by omega
      rw [gn, yn]; exact keep _ _ hv hne
  · cases hq
    have fin : ∀ (u : SV) (q : Pm), FRow n w u q → (∀ b, a = some ⟨b, 0, none⟩ → u.1 ≠ some ⟨b, 0, none⟩) → u.1 ≠ some ⟨g, 0, none⟩ := fun u q hu hne e => by
      rcases hat with hat | hat
      · exact hne g (hob g hat) e
      · have := hu.own.hi g e; omega
    by_cases e : i < m
    · rw [gl i e]; exact fin _ _ (h.row i e) (h.ap i e)
    · obtain rfl : i = m := by omega
      rw [gn]; exact fin _ _ hv hne
theorem Fac.set {g i : Nat} (h : Fac n w lo (some ⟨g, 0, none⟩) m c vs Y) (hi : i < m) (hv : FRow n w v p) (hne : v.1 ≠ some ⟨g, 0, none⟩) : Fac n (w.setCell ⟨g, i, none⟩ (sl v)) lo (some ⟨g, 0, none⟩) m c (vs.set i v) (Y.set i p) := by
  have hvl := h.hd.1
  have hl := h.len
  have keep : ∀ (u : SV) (q : Pm), FRow n w u q → u.1 ≠ some ⟨g, 0, none⟩ → FRow n (w.setCell ⟨g, i, none⟩ (sl v)) u q := fun u q hu hne => ⟨hu.own.keep fun b hb hlt => Below.heap_setCell _ _ _ _ (fun e => hne (by rw [hb, e])), hu.len, hu.fx⟩
  have hap : ∀ k, k < m → (vs.getD k svO).1 ≠ some ⟨g, 0, none⟩ := fun k hk => h.ap k hk g rfl
  refine ⟨?_, by rw [List.length_set]; exact hl, fun k hk => ?_, fun k hk q hq => ?_⟩
  · rcases h.hd.block with ⟨h1, _⟩ | ⟨g', cur, h1, h2, h3, h4, h5, h6, h7⟩
    · cases h1
    · cases h1
      refine ⟨by rw [List.length_set]; exact hvl, ownsRow_mk (by rw [List.length_set]; exact hvl) h2 (h3.set i _) h4 h5 (by simpa using h6) ?_⟩
      rw [Array.toList_setIfInBounds, List.take_set, h7, List.map_set]
  · by_cases e : k = i
    · subst e
      rw [show (vs.set k v).getD k svO = v by simp [List.getD_eq_getElem?_getD, show k < vs.length by omega], show (Y.set k p).getD k Pm.one = p by simp [List.getD_eq_getElem?_getD, show k < Y.length by omega]]
      exact keep _ _ hv hne
    · rw [show (vs.set i v).getD k svO = vs.getD k svO by simp [List.getD_eq_getElem?_getD, List.getElem?_set_ne (fun h => e h.symm)], show (Y.set i p).getD k Pm.one = Y.getD k Pm.one by simp [List.getD_eq_getElem?_getD, List.getElem?_set_ne (fun h => e h.symm)]]
      exact keep _ _ (h.row k hk) (hap k hk)
  · cases hq
    by_cases e : k = i
    · subst e
      rw [show (vs.set k v).getD k svO = v by simp [List.getD_eq_getElem?_getD, show k < vs.length by omega]]; exact hne
    · rw [show (vs.set i v).getD k svO = vs.getD k svO by simp [List.getD_eq_getElem?_getD, List.getElem?_set_ne (fun h => e h.symm)]]; exact hap k hk
end
end Go.Proofs.YtkjpkdmnjbjjaaaGreat

namespace Go.Proofs.YtkjpkdmnjbjjaaaGreat
set_option maxRecDepth 100000
set_option linter.unusedVariables false
set_option linter.unusedSimpArgs false
open Go.RowKit
def Nw (w : World) (a a' : Option Addr) : Prop := a' = a ∨ ∀ g, a' = some ⟨g, 0, none⟩ → w.heap.size ≤ g
end Go.Proofs.YtkjpkdmnjbjjaaaGreat

namespace Go.Proofs.YtkjpkdmnjbjjaaaGreat
set_option maxRecDepth 100000
set_option linter.unusedVariables false
set_option linter.unusedSimpArgs false
open Go.RowKit
set_option maxHeartbeats 400000 in
theorem sEqual_any (a1 a2 : Option Addr) (n1 n2 c1 c2 : Nat) (xs ys : List Int) (w : World) (h1 : Row w a1 n1 xs) (h2 : Row w a2 n2 ys) (hm : n1 ≤ 9223372036854775807) :
    Calls Tryz.prog 100 #[.slice a1 n1 c1, .slice a2 n2 c2] w fun e w' => e = .returned (.bool (decide (xs = ys))) ∧ ∃ n, w' = w.drewN n := by
  have hl1 := h1.len
  have hl2 := h2.len
  by_cases hl : n1 = n2
  · subst hl
    have HL := Lib.hid hl1; have HL2 := Lib.hid hl2; clear hl1 hl2
    have hb : ((n1 : Int) != (n1 : Int)) = false := by simp
    go_enter Tryz.func100, Tryz.ntmps100
    go_wp2
    clear hb
    go_loopw [13] (fun i wr => ∃ k : Nat, k ≤ n1 ∧ i = .int .i64 k ∧ xs.take k = ys.take k ∧ ∃ n, wr = w.drewN n) (fun i _ => n1 - (intOf i).toNat)
    case atStart => exact ⟨0, Nat.zero_le _, rfl, by simp, 0, rfl⟩
    case round =>
      obtain ⟨k, hk, rfl, ht, n, rfl⟩ := hrel
      have HT := Lib.hid ht; clear ht
      by_cases hlt : k < n1
      · obtain ⟨b1, o1, rfl, g1⟩ := h1.at k hlt
        obtain ⟨b2, o2, rfl, g2⟩ := h2.at k hlt
        have hx : k < xs.length := by have := HL.out; omega
        have hy : k < ys.length := by have := HL2.out; omega
        clear h1 h2
        go_wp2
        go_quiet (fail)
        go_wp2
        · go_ret
          refine ⟨ret_bool ?_, n + nq, by rw [World.drewN_drewN]⟩
          rename_i hne
          simp only [Bool.false_eq, decide_eq_false_iff_not]
          rintro rfl
          simp at hne
        · go_roundw
          case rel =>
            rename_i hne
            refine ⟨k + 1, by omega, by go_num, take_eq_succ hx hy HT.out (by simpa using hne), n + nq, rfl⟩
          case measure => simp [intOf]; omega
      · obtain rfl : k = n1 := by omega
        go_wp2
        go_ret
        refine ⟨ret_bool ?_, _, rfl⟩
        have := HT.out
        rw [List.take_of_length_le (by have := HL.out; omega), List.take_of_length_le (by have := HL2.out; omega)] at this
        simp [this]
  · have hb : ((n1 : Int) != (n2 : Int)) = true := by simp; omega
    have hne : ¬ xs = ys := by rintro rfl; omega
    clear hl1 hl2
    go_enter Tryz.func100, Tryz.ntmps100
    go_wp2
    go_ret
    exact ⟨ret_bool (by simp [hne]), 0, rfl⟩
theorem sEqual_b (a1 a2 : Option Addr) (n1 n2 c1 c2 : Nat) (xs ys : List Int) (w : World) (h1 : Row w a1 n1 xs) (h2 : Row w a2 n2 ys) (hm : n1 ≤ 9223372036854775807) (b : Bool) (hb : decide (xs = ys) = b) :
    Calls Tryz.prog 100 #[.slice a1 n1 c1, .slice a2 n2 c2] w fun e w' => e = .returned (.bool b) ∧ Below w.heap.size w w' :=
  (sEqual_any a1 a2 n1 n2 c1 c2 xs ys w h1 h2 hm).mono fun e w' ⟨he, m, hw⟩ => ⟨he.trans (ret_bool hb), by rw [hw]; exact below_drewN (Below.refl _ _) m⟩
end Go.Proofs.YtkjpkdmnjbjjaaaGreat

namespace Go.Proofs.YtkjpkdmnjbjjaaaGreat
set_option linter.unusedVariables false
set_option linter.unusedSimpArgs false
def permOk (p : List Int) : Bool := allN p.length fun x : Nat => p.contains (x : Int)
/-! ### racks -/
end Go.Proofs.YtkjpkdmnjbjjaaaGreat

namespace Go.Proofs.YtkjpkdmnjbjjaaaGreat
set_option linter.unusedVariables false
set_option linter.unusedSimpArgs false
def cstL (n : Nat) : List (List Int) := tabF n fun x _ => (x : Int)
section
variable {t M : List (List Int)} {m : Int}
end
end Go.Proofs.YtkjpkdmnjbjjaaaGreat

namespace Go.Proofs.YtkjpkdmnjbjjaaaGreat
set_option maxRecDepth 100000
set_option linter.unusedVariables false
set_option linter.unusedSimpArgs false
open Go.RowKit
/-! ### A slice of truths that the call owns (its block lies from 'lo' on) -/
def OwnBo (w : World) (lo : Nat) (a : Option Addr) (n c : Nat) (xs : List Bool) : Prop := n = xs.length ∧ w.ownsRow lo 4 1 (.slice a n c) n (xs.map Value.bool)
theorem OwnBo.nil (w : World) (lo : Nat) : OwnBo w lo none 0 0 [] := ⟨rfl, World.ownsRow_nil w lo _ 1⟩
theorem OwnBo.len {w : World} {lo : Nat} {a : Option Addr} {n c : Nat} {xs : List Bool} (h : OwnBo w lo a n c xs) : n = xs.length := h.1
theorem OwnBo.alloc {w : World} {lo : Nat} {a : Option Addr} {n c : Nat} {xs : List Bool} (h : OwnBo w lo a n c xs) (o : Obj) : OwnBo (w.alloc o) lo a n c xs := ⟨h.1, h.2.alloc o⟩
theorem OwnBo.drew {w : World} {lo : Nat} {a : Option Addr} {n c : Nat} {xs : List Bool} (h : OwnBo w lo a n c xs) : OwnBo w.drew lo a n c xs := h
theorem OwnBo.drewN {w : World} {lo : Nat} {a : Option Addr} {n c : Nat} {xs : List Bool} (h : OwnBo w lo a n c xs) (k : Nat) : OwnBo (w.drewN k) lo a n c xs := h
theorem OwnBo.block {w : World} {lo : Nat} {a : Option Addr} {n c : Nat} {xs : List Bool} (h : OwnBo w lo a n c xs) : (a = none ∧ n = 0 ∧ c = 0) ∨ ∃ g cur, a = some ⟨g, 0, none⟩ ∧ lo ≤ g ∧ Loc w g cur 4 ∧ n ≤ c ∧ c ≤ maxLen ∧ cur.size = c ∧ cur.toList.take n = xs.map Value.bool := by
  rcases h.2.2 with ⟨h1, h2⟩ | ⟨g, cap, cur, h1, h2, h3, h4, h5, h6, h7⟩
  · cases h1; exact .inl ⟨rfl, rfl, rfl⟩
  · cases h1; exact .inr ⟨g, cur, rfl, h2, h3, h4, h5, by simpa using h6, by simpa using h7⟩
theorem OwnBo.mk {w : World} {lo : Nat} {g n c : Nat} {xs : List Bool} {cur : Array Value} (hn : n = xs.length) (h1 : lo ≤ g) (h2 : Loc w g cur 4) (h3 : n ≤ c) (h4 : c ≤ maxLen) (h5 : cur.size = c) (h6 : cur.toList.take n = xs.map Value.bool) : OwnBo w lo (some ⟨g, 0, none⟩) n c xs :=
  ⟨hn, by simp [hn], .inr ⟨g, c, cur, rfl, h1, h2, h3, h4, by simpa using h5, by simpa using h6⟩⟩
theorem OwnBo.lt {w : World} {lo : Nat} {g o n c : Nat} {xs : List Bool} (h : OwnBo w lo (some ⟨g, o, none⟩) n c xs) : lo ≤ g ∧ g < w.heap.size := by
  rcases h.block with ⟨h1, _⟩ | ⟨g', cur, h1, h2, h3, _⟩
  · cases h1
  · cases h1; exact ⟨h2, h3.lt⟩
theorem OwnBo.mono {w : World} {lo lo' : Nat} {a : Option Addr} {n c : Nat} {xs : List Bool} (h : OwnBo w lo a n c xs) (hl : lo' ≤ lo) : OwnBo w lo' a n c xs := by
  rcases h.block with ⟨rfl, rfl, rfl⟩ | ⟨g, cur, rfl, h2, h3, h4, h5, h6, h7⟩
  · have : xs = [] := List.eq_nil_of_length_eq_zero h.1.symm
    subst this; exact OwnBo.nil _ _
  · exact OwnBo.mk h.1 (by omega) h3 h4 h5 h6 h7
theorem OwnBo.keep {w w' : World} {lo : Nat} {a : Option Addr} {n c : Nat} {xs : List Bool} (h : OwnBo w lo a n c xs) (hk : ∀ g, a = some ⟨g, 0, none⟩ → g < w.heap.size → w'.heap[g]? = w.heap[g]?) : OwnBo w' lo a n c xs := by
  rcases h.block with ⟨rfl, rfl, rfl⟩ | ⟨g, cur, rfl, h2, h3, h4, h5, h6, h7⟩
  · have : xs = [] := List.eq_nil_of_length_eq_zero h.1.symm
    subst this; exact OwnBo.nil _ _
  · exact OwnBo.mk h.1 h2 ((hk g rfl h3.lt).trans h3) h4 h5 h6 h7
theorem OwnBo.below {w w' : World} {lo : Nat} {a : Option Addr} {n c : Nat} {xs : List Bool} (h : OwnBo w lo a n c xs) (hb : Below w.heap.size w w') : OwnBo w' lo a n c xs := h.keep fun g _ hlt => hb.block g hlt
theorem OwnBo.setne {w : World} {lo : Nat} {a : Option Addr} {n c : Nat} {xs : List Bool} (h : OwnBo w lo a n c xs) {p : Addr} (hp : ∀ g, a = some ⟨g, 0, none⟩ → g ≠ p.block) (u : Value) : OwnBo (w.setCell p u) lo a n c xs := h.keep fun g hg _ => Below.heap_setCell _ _ _ _ (hp g hg)
theorem OwnBo.setlo {w : World} {lo : Nat} {a : Option Addr} {n c : Nat} {xs : List Bool} (h : OwnBo w lo a n c xs) {p : Addr} (hp : p.block < lo) (u : Value) : OwnBo (w.setCell p u) lo a n c xs := by
  refine h.setne (fun g hg => ?_) u
  subst hg; have := h.lt; omega
theorem OwnBo.grown {w w' : World} {lo : Nat} {a : Option Addr} {n c : Nat} {xs : List Bool} {row : Option Nat} (h : OwnBo w lo a n c xs) (hg : w.grownBy w' row) (hne : ∀ g, a = some ⟨g, 0, none⟩ → some g ≠ row) : OwnBo w' lo a n c xs := h.keep fun g hg' hlt => hg.block g hlt (hne g hg')
theorem OwnBo.cap {w : World} {lo : Nat} {a : Option Addr} {n c : Nat} {xs : List Bool} (h : OwnBo w lo a n c xs) : n ≤ c ∧ c ≤ 9223372036854775807 := by
  rcases h.block with ⟨rfl, rfl, rfl⟩ | ⟨g, cur, rfl, h2, h3, h4, h5, h6, h7⟩
  · omega
  · unfold maxLen at h5; omega
theorem OwnBo.cells {w : World} {lo : Nat} {g o n c : Nat} {xs : List Bool} (h : OwnBo w lo (some ⟨g, o, none⟩) n c xs) : o = 0 ∧ (∀ i, i < n → w.cell? ⟨g, i, none⟩ = some (.bool (xs.getD i false))) ∧ (∀ i, w.frozen? ⟨g, i, none⟩ = false) := by
  rcases h.block with ⟨h1, _⟩ | ⟨g', cur, h1, h2, h3, h4, h5, h6, h7⟩
  · cases h1
  · cases h1
    refine ⟨rfl, fun i hi => h3.cell i ?_, fun i => h3.free i⟩
    have hx : (cur.toList.take n)[i]? = (xs.map Value.bool)[i]? := by rw [h7]
    have hxi : i < xs.length := by have := h.1; omega
    rw [List.getElem?_take, if_pos hi] at hx
    simp [List.getElem?_eq_getElem hxi] at hx
    simp [List.getD_eq_getElem?_getD, List.getElem?_eq_getElem hxi, hx]
theorem OwnBo.set {w : World} {lo : Nat} {g n c : Nat} {xs : List Bool} (h : OwnBo w lo (some ⟨g, 0, none⟩) n c xs) (i : Nat) (x : Bool) : OwnBo (w.setCell ⟨g, i, none⟩ (.bool x)) lo (some ⟨g, 0, none⟩) n c (xs.set i x) := by
  rcases h.block with ⟨h1, _⟩ | ⟨g', cur, h1, h2, h3, h4, h5, h6, h7⟩
  · cases h1
  · cases h1
    refine OwnBo.mk (by simp [h.1]) h2 (h3.set i _) h4 h5 (by simpa using h6) ?_
    rw [Array.toList_setIfInBounds, List.take_set, h7, List.map_set]
theorem OwnBo.hi {w : World} {lo : Nat} {a : Option Addr} {n c : Nat} {xs : List Bool} (h : OwnBo w lo a n c xs) : ∀ g, a = some ⟨g, 0, none⟩ → g < w.heap.size := fun g hg => by subst hg; exact h.lt.2
theorem OwnBo.lo {w : World} {lo : Nat} {a : Option Addr} {n c : Nat} {xs : List Bool} (h : OwnBo w lo a n c xs) : ∀ g, a = some ⟨g, 0, none⟩ → lo ≤ g := fun g hg => by subst hg; exact h.lt.1
end Go.Proofs.YtkjpkdmnjbjjaaaGreat

namespace Go.Proofs.YtkjpkdmnjbjjaaaGreat
set_option maxRecDepth 100000
set_option linter.unusedVariables false
set_option linter.unusedSimpArgs false
open Go.RowKit
theorem FRow.set {n : Nat} {w : World} {u : SV} {q : Pm} {g i : Nat} {x : Value} (hu : FRow n w u q) (hne : u.1 ≠ some ⟨g, 0, none⟩) : FRow n (w.setCell ⟨g, i, none⟩ x) u q :=
  ⟨hu.own.keep fun b hb hlt => Below.heap_setCell _ _ _ _ (fun e => hne (by rw [hb, e])), hu.len, hu.fx⟩
theorem Nw.ne {w : World} {a a' : Option Addr} {g : Nat} (h : Nw w a a') (hg : g < w.heap.size) (hne : a ≠ some ⟨g, 0, none⟩) : a' ≠ some ⟨g, 0, none⟩ := fun e => by
  rcases h with h | h
  · rw [h] at e; exact hne e
  · have := h g e; omega
end Go.Proofs.YtkjpkdmnjbjjaaaGreat

namespace Go.Proofs.YtkjpkdmnjbjjaaaGreat
set_option maxRecDepth 100000
set_option linter.unusedVariables false
set_option linter.unusedSimpArgs false
open Go.RowKit
theorem br_ltr {n : Nat} {xs : List Int} (hb : isBr n xs = true) : 2 ≤ n ∧ n ≤ 6 ∧ xs.length ≤ 30 ∧ ∀ x ∈ xs, Ltr n x := by
  obtain ⟨h26, h30, hlet⟩ := isBr_let hb
  exact ⟨by omega, by omega, h30, fun x hx => ltr_of rfl (hlet x hx)⟩
end Go.Proofs.YtkjpkdmnjbjjaaaGreat

namespace Go.Proofs.YtkjpkdmnjbjjaaaGreat
set_option maxRecDepth 100000
set_option linter.unusedVariables false
set_option linter.unusedSimpArgs false
open Go.RowKit
def orbN (f : Nat → Nat) : Nat → List Nat → Nat → List Nat
  | 0, c, _ => c
  | m + 1, c, y => if y ∈ c then c else orbN f m (c ++ [y]) (f y)
def orbF (f : Nat → Nat) (n x : Nat) : List Nat := orbN f n [x] (f x)
def setAll (L : List Int) (c : List Nat) (v : Int) : List Int := c.foldl (fun L y => L.set y v) L
theorem setAll_snoc (L : List Int) (c : List Nat) (y : Nat) (v : Int) : setAll L (c ++ [y]) v = (setAll L c v).set y v := by simp [setAll]
theorem setAll_len (c : List Nat) (v : Int) : ∀ (L : List Int), (setAll L c v).length = L.length := by
  induction c with
  | nil => intro L; rfl
  | cons x c ih =>
    intro L
    show (setAll (L.set x v) c v).length = _
    rw [ih, List.length_set]
theorem setAll_get (c : List Nat) (v : Int) (i : Nat) : ∀ (L : List Int), i < L.length → (setAll L c v).getD i 0 = if i ∈ c then v else L.getD i 0 := by
  induction c with
  | nil => intro L _; simp [setAll]
  | cons x c ih =>
    intro L hi
    show (setAll (L.set x v) c v).getD i 0 = _
    rw [ih _ (by rw [List.length_set]; exact hi), getD_setz _ _ _ _ hi]
    by_cases h1 : i ∈ c
    · rw [if_pos h1, if_pos (List.mem_cons_of_mem _ h1)]
    · rw [if_neg h1]
      by_cases h2 : i = x
      · subst h2; rw [if_pos rfl, if_pos List.mem_cons_self]
      · rw [if_neg h2, if_neg (by simp [h1, h2])]
theorem nodup_le : ∀ (n : Nat) (c : List Nat), c.Nodup → (∀ x ∈ c, x < n) → c.length ≤ n := by
  intro n
  induction n with
  | zero =>
    intro c _ h
    cases c with
    | nil => exact Nat.le_refl _
    | cons x c => exact absurd (h x List.mem_cons_self) (by omega)
  | succ n ih =>
    intro c hd h
    have h1 := ih (c.erase n) (hd.erase n) (fun x hx => by
      have h2 := (List.Nodup.mem_erase_iff hd).1 hx
      have := h x h2.2
      have := h2.1
      omega)
    by_cases hm : n ∈ c
    · rw [List.length_erase_of_mem hm] at h1; omega
    · rw [List.erase_of_not_mem hm] at h1; omega
structure OrbI (f : Nat → Nat) (n x : Nat) (c : List Nat) (l rem : Nat) : Prop where
  nd : c.Nodup
  lt : ∀ u ∈ c, u < n
  xm : x ∈ c
  lm : l ∈ c
  rm : rem + c.length = n + 1
  pre : ∀ z ∈ c, z ≠ x → ∃ u ∈ c, u ≠ l ∧ f u = z
  eq : orbF f n x = orbN f rem c (f l)
theorem OrbI.start (f : Nat → Nat) {n x : Nat} (h : x < n) : OrbI f n x [x] x n :=
  ⟨by simp, by simpa using h, by simp, by simp, by simp, fun z hz hne => absurd (by simpa using hz) hne, rfl⟩
theorem OrbI.le {f : Nat → Nat} {n x : Nat} {c : List Nat} {l rem : Nat} (h : OrbI f n x c l rem) : c.length ≤ n := nodup_le n c h.nd h.lt
theorem OrbI.step {f : Nat → Nat} {n x : Nat} {c : List Nat} {l rem : Nat} (h : OrbI f n x c l rem) (hm : f l ∉ c) (hl : f l < n) : OrbI f n x (c ++ [f l]) (f l) (rem - 1) := by
  have hle := h.le
  obtain ⟨m, rfl⟩ : ∃ m, rem = m + 1 := ⟨rem - 1, by have := h.rm; omega⟩
  refine ⟨?_, ?_, by simp [h.xm], by simp, by have := h.rm; simp; omega, ?_, ?_⟩
  · rw [List.nodup_append]
    refine ⟨h.nd, by simp, fun a ha b hb => ?_⟩
    simp at hb; subst hb
    exact fun e => hm (e ▸ ha)
  · intro u hu
    rcases List.mem_append.1 hu with hu | hu
    · exact h.lt u hu
    · simp at hu; subst hu; exact hl
  · intro z hz hne
    rcases List.mem_append.1 hz with hz | hz
    · obtain ⟨u, hu, _, he⟩ := h.pre z hz hne
      exact ⟨u, by simp [hu], fun e => hm (e ▸ hu), he⟩
    · simp at hz; subst hz
      exact ⟨l, by simp [h.lm], fun e => hm (e ▸ h.lm), rfl⟩
  · rw [h.eq]
    show (if f l ∈ c then c else orbN f m (c ++ [f l]) (f (f l))) = _
    rw [if_neg hm]; rfl
theorem OrbI.stop {f : Nat → Nat} {n x : Nat} {c : List Nat} {l rem : Nat} (h : OrbI f n x c l rem) (hm : f l ∈ c) : orbF f n x = c := by
  have hle := h.le
  obtain ⟨m, rfl⟩ : ∃ m, rem = m + 1 := ⟨rem - 1, by have := h.rm; omega⟩
  rw [h.eq]
  show (if f l ∈ c then c else _) = _
  rw [if_pos hm]
theorem OrbI.closed {f : Nat → Nat} {n x : Nat} {c : List Nat} {l rem : Nat} (h : OrbI f n x c l rem) (hm : f l ∈ c) (hinj : ∀ i j, i < n → j < n → f i = f j → i = j) : ∀ i, i < n → f i ∈ c → i ∈ c := by
  have hll := h.lt l h.lm
  have hx : f l = x := by
    by_cases e : f l = x
    · exact e
    · obtain ⟨u, hu, hne, he⟩ := h.pre _ hm e
      exact absurd (hinj u l (h.lt u hu) hll he) hne
  intro i hi hic
  by_cases e : f i = x
  · rw [hinj i l hi hll (e.trans hx.symm)]; exact h.lm
  · obtain ⟨u, hu, _, he⟩ := h.pre _ hic e
    rw [← hinj u i (h.lt u hu) hi he]; exact hu
def labS (f : Nat → Nat) (n : Nat) : Nat → List Int × Nat
  | 0 => (List.replicate n (-1), 0)
  | s + 1 => if 0 ≤ (labS f n s).1.getD s 0 then labS f n s else (setAll (labS f n s).1 (orbF f n s) (labS f n s).2, (labS f n s).2 + 1)
def labF (f : Nat → Nat) (n : Nat) : List Int := (labS f n n).1
theorem labS_len (f : Nat → Nat) (n s : Nat) : (labS f n s).1.length = n := by
  induction s with
  | zero => simp [labS]
  | succ s ih =>
    unfold labS; split
    · exact ih
    · rw [setAll_len]; exact ih
theorem labS_num (f : Nat → Nat) (n s : Nat) : (labS f n s).2 ≤ s := by
  induction s with
  | zero => simp [labS]
  | succ s ih =>
    unfold labS; split
    · omega
    · show _ + 1 ≤ _; omega
def Clo (f : Nat → Nat) (n : Nat) (L : List Int) : Prop := ∀ i, i < n → L.getD i 0 < 0 → L.getD (f i) 0 < 0
theorem clo_zero (f : Nat → Nat) (n : Nat) (hf : ∀ i, i < n → f i < n) : Clo f n (List.replicate n (-1)) := by
  intro i hi _
  simp [List.getD_eq_getElem?_getD, List.getElem?_replicate, hf i hi]
theorem clo_step {f : Nat → Nat} {n : Nat} {L : List Int} (h : Clo f n L) (hL : L.length = n) (hf : ∀ i, i < n → f i < n) {c : List Nat} (hc : ∀ i, i < n → f i ∈ c → i ∈ c) (v : Nat) : Clo f n (setAll L c v) := by
  intro i hi hlt
  rw [setAll_get c v i L (by omega)] at hlt
  rw [setAll_get c v (f i) L (by have := hf i hi; omega)]
  by_cases h1 : i ∈ c
  · rw [if_pos h1] at hlt; omega
  · rw [if_neg h1] at hlt
    rw [if_neg (fun h2 => h1 (hc i hi h2))]
    exact h i hi hlt
end Go.Proofs.YtkjpkdmnjbjjaaaGreat

namespace Go.Proofs.YtkjpkdmnjbjjaaaGreat
set_option maxRecDepth 100000
set_option linter.unusedVariables false
set_option linter.unusedSimpArgs false
open Go.RowKit
def Que (w : World) (lo g off n c : Nat) (xs : List Int) : Prop :=
  n = xs.length ∧ lo ≤ g ∧ n ≤ c ∧ c ≤ 9223372036854775807 ∧ ∃ cur, Loc w g cur 2 ∧ off + c ≤ cur.size ∧ ∀ i, i < n → cur[off + i]? = some (.int .i64 (xs.getD i 0))
theorem Que.len {w : World} {lo g off n c : Nat} {xs : List Int} (h : Que w lo g off n c xs) : n = xs.length := h.1
theorem Que.cap {w : World} {lo g off n c : Nat} {xs : List Int} (h : Que w lo g off n c xs) : n ≤ c ∧ c ≤ 9223372036854775807 := ⟨h.2.2.1, h.2.2.2.1⟩
theorem Que.lt {w : World} {lo g off n c : Nat} {xs : List Int} (h : Que w lo g off n c xs) : lo ≤ g ∧ g < w.heap.size := by
  obtain ⟨_, h1, _, _, cur, h2, _⟩ := h; exact ⟨h1, h2.lt⟩
theorem Que.cells {w : World} {lo g off n c : Nat} {xs : List Int} (h : Que w lo g off n c xs) : ∀ i, i < n → w.cell? ⟨g, off + i, none⟩ = some (.int .i64 (xs.getD i 0)) := by
  obtain ⟨_, _, _, _, cur, h2, _, h3⟩ := h
  intro i hi
  exact h2.cell _ (h3 i hi)
theorem Que.tail {w : World} {lo g off n c : Nat} {x : Int} {xs : List Int} (h : Que w lo g off n c (x :: xs)) : Que w lo g (off + 1) (n - 1) (c - 1) xs := by
  obtain ⟨h0, h1, h2, h2', cur, h3, h4, h5⟩ := h
  simp at h0
  refine ⟨by omega, h1, by omega, by omega, cur, h3, by omega, fun i hi => ?_⟩
  have := h5 (i + 1) (by omega)
  rw [show off + 1 + i = off + (i + 1) by omega, this]
  simp [List.getD_eq_getElem?_getD]
theorem Que.cut {w : World} {lo g off c : Nat} {x : Int} (h : Que w lo g off 1 c [x]) : ∃ off', (if c = 1 then some (⟨g, off, none⟩ : Addr) else some ⟨g, off + 1, none⟩) = some ⟨g, off', none⟩ ∧ Que w lo g off' 0 (c - 1) [] := by
  by_cases hc : c = 1
  · subst hc
    obtain ⟨h0, h1, h2, h2', cur, h3, h4, h5⟩ := h
    exact ⟨off, rfl, rfl, h1, by omega, by omega, cur, h3, by omega, fun i hi => absurd hi (by omega)⟩
  · exact ⟨off + 1, if_neg hc, h.tail⟩
theorem Que.below {w w' : World} {lo g off n c : Nat} {xs : List Int} (h : Que w lo g off n c xs) (hb : Below w.heap.size w w') : Que w' lo g off n c xs := by
  obtain ⟨h0, h1, h2, h2', cur, h3, h4⟩ := h
  exact ⟨h0, h1, h2, h2', cur, h3.below hb h3.lt, h4⟩
theorem Que.setne {w : World} {lo g off n c : Nat} {xs : List Int} (h : Que w lo g off n c xs) {a : Addr} (hne : g ≠ a.block) (u : Value) : Que (w.setCell a u) lo g off n c xs := by
  obtain ⟨h0, h1, h2, h2', cur, h3, h4⟩ := h
  exact ⟨h0, h1, h2, h2', cur, h3.setne hne u, h4⟩
theorem Que.one {w : World} {lo b : Nat} {x : Int} (hb : b = w.heap.size) (hlo : lo ≤ b) : Que (w.alloc (.cells #[.int .i64 x] 2)) lo b 0 1 1 [x] :=
  ⟨rfl, hlo, Nat.le_refl _, by decide, _, Loc.new w hb _ _, by simp, fun i (hi : i < 1) => by
    have e : i = 0 := by omega
    subst e
    rfl⟩
theorem appQu {ops : Array Oper} {rest : List Oper} {o : Oper} {a : Act} {Q : Exit → Act → World → Prop} {w : World} (hgd : o.guard = none) {s x : Operand}
    (ho : o.op = .call { callee := .builtin .append, args := #[s, x], argTypes := #[35, 35] }) {lo g off n c : Nat} {xs : List Int} (hown : Que w lo g off n c xs) (hs : a.eval s = .slice (some ⟨g, off, none⟩) n c)
    {y : Int} {H : Nat} (hH : w.heap.size = H) (hx : a.eval x = .slice (some ⟨H, 0, none⟩) 1 1) (hlen : n + 1 ≤ 1000000000000) (hlo : lo ≤ w.heap.size)
    (h : ∀ g' off' c' w', Que w' lo g' off' (n + 1) c' (xs ++ [y]) → (g' = g ∨ w.heap.size < g') → (∀ k, k < w.heap.size → k ≠ g → w'.heap[k]? = w.heap[k]?) → Below lo w w' → wpList Tryz.prog ops Q rest (a.put o.dst (.slice (some ⟨g', off', none⟩) (n + 1) c')) w') :
    wpList Tryz.prog ops Q (o :: rest) a (w.alloc (.cells #[.int .i64 y] 2)) := by
  subst hH
  obtain ⟨i0, hi, hz0, hz1, hz2⟩ := info_parts info_int
  refine wpList_plain hgd fun _ hK => ?_
  have hlt := hown.lt
  obtain ⟨h0, h1, h2, h2', cur, h3, h4, h5⟩ := hown
  have h3a := h3.alloc (.cells #[.int .i64 y] 2)
  have hsrc : Go.Src Tryz.prog i0.size 35 (.slice (some ⟨w.heap.size, 0, none⟩) 1 1) 1 [.int .i64 y] (w.alloc (.cells #[.int .i64 y] 2)) :=
    Go.Src.ofSlice _ und_ints _ 1 1 _ (by rw [hz1]; rfl) (cell_one_new _ _ _) (fun u hu => by simp at hu; subst hu; rfl)
  have hb1 : Below lo w (w.alloc (.cells #[.int .i64 y] 2)) := (Below.refl _ _).alloc hlo _
  by_cases hr : n + 1 ≤ c
  · have hin : off + n < cur.size := by omega
    have hrun := run_append_room_src (P := Tryz.prog) (w.alloc (.cells #[.int .i64 y] 2)) 35 35 o.type 2 i0 und_ints hi g off n c _ 1 _ hsrc hr
      (fun j hj => by
        obtain rfl : j = 0 := by simp at hj; omega
        rw [hz1, Nat.mul_one, Nat.add_zero, h3a.cell (v := cur[off + n]) (off + n) (by simp [hin])]; rfl)
      (fun j hj => h3a.free _)
    rw [hz1, Nat.mul_one] at hrun
    unfold Oper.wp execOp
    simp only [ho, resolve, invoke, builtin, Sem.run_bind, Sem.run_pure, Result.andThen_ok, List.map_toArray, List.map_cons, List.map_nil, hs, hx, hrun]
    refine hK _ _ (h g off c _ ⟨by simp [h0], h1, hr, h2', _, (h3a.set (off + n) (.int .i64 y)), by simp; omega, fun i hin' => ?_⟩ (.inl rfl) (fun k hk hne => ?_) (hb1.setCell (by show lo ≤ g; exact h1) _))
    · rw [Array.getElem?_setIfInBounds]
      by_cases e : i = n
      · subst e
        rw [if_pos rfl, if_pos hin, h0]
        simp [List.getD_eq_getElem?_getD]
      · rw [if_neg (by omega), h5 i (by omega)]
        have : i < xs.length := by omega
        simp [List.getD_eq_getElem?_getD, List.getElem?_append_left this]
    · have e1 : ((w.alloc (.cells #[.int .i64 y] 2)).setCells g (off + n) [Value.int .i64 y]).heap[k]? = (w.alloc (.cells #[.int .i64 y] 2)).heap[k]? := Below.heap_setCell _ ⟨g, off + n, none⟩ (.int .i64 y) k hne
      exact e1.trans (heap_alloc_old w _ hk)
  · have hold : (Builtin.firstCells i0.size n (.slice (some ⟨g, off, none⟩) n c)).run Tryz.prog (w.alloc (.cells #[.int .i64 y] 2)).drew = .ok (xs.map (Value.int .i64)).toArray (w.alloc (.cells #[.int .i64 y] 2)).drew := by
      refine run_firstCells_some _ _ n ⟨g, off, none⟩ n c _ (by rw [hz1]; simp [h0]) (fun j u hu => ?_)
      have hj : j < n := by
        have := (List.getElem?_eq_some_iff.1 hu).1
        simp at this; omega
      rw [Addr.add_lit]
      have hc := h3a.cell _ (h5 j hj)
      have hjx : j < xs.length := by omega
      refine hc.trans ?_
      rw [← hu]
      simp [List.getD_eq_getElem?_getD, hjx]
    have hrun := run_append_grow_src (P := Tryz.prog) (w.alloc (.cells #[.int .i64 y] 2)) 35 35 o.type 2 i0 (.int .i64 0) und_ints hi hz0 (some ⟨g, off, none⟩) n c _ hold _ 1 _ hsrc (by omega) (by omega)
      (by rw [hz2]; exact growslice_fits (by omega) (by omega))
    have hge := grownCap_ge (w.alloc (.cells #[.int .i64 y] 2)) (n + 1) c 2
    have hcm : grownCap (w.alloc (.cells #[.int .i64 y] 2)) (n + 1) c 2 ≤ maxLen := grownCap_le_maxLen _ (n + 1) c 2 (by unfold maxLen; omega)
    unfold Oper.wp execOp
    simp only [ho, resolve, invoke, builtin, Sem.run_bind, Sem.run_pure, Result.andThen_ok, List.map_toArray, List.map_cons, List.map_nil, hs, hx, hrun]
    generalize hC : grownCap (w.alloc (.cells #[.int .i64 y] 2)) (n + 1) c 2 = C at hge hcm ⊢
    refine hK _ _ (h _ 0 C _ ⟨by simp [h0], by simp; omega, hge, by unfold maxLen at hcm; omega, _, Loc.new _ rfl _ _, ?_, fun i hin' => ?_⟩ (.inr (by simp)) (fun k hk hne => ?_) ?_)
    · have hzs : (Value.int .i64 0).cells.size = 1 := rfl
      simp [size_zeroCells, hzs]; omega
    · rw [Nat.zero_add, Array.getElem?_append_left (by simp; omega)]
      have e : xs.map (Value.int .i64) ++ [Value.int .i64 y] = (xs ++ [y]).map (Value.int .i64) := by simp
      rw [e]
      have hix : i < (xs ++ [y]).length := by simp; omega
      simp only [List.getElem?_toArray, List.getElem?_map]
      rw [List.getElem?_eq_getElem hix, List.getD_eq_getElem?_getD, List.getElem?_eq_getElem hix]; rfl
    · exact (heap_alloc_old _ _ (by simp; omega)).trans (heap_alloc_old w _ hk)
    · exact (hb1.drew).alloc (by simp; omega) _
end Go.Proofs.YtkjpkdmnjbjjaaaGreat
