/-
  Walks and plain laws of this seat, some texts in one.
  No condition but bounds on lengths.
-/
import Derived.Test.YtpdgpgbgakinlaaGreatPa33
import Derived.Test.YtpdgpgbgakinlaaGreatPa2
import Derived.Test.YtpdgpgbgakinlaaGreatPa5
import Derived.Test.YtpdgpgbgakinlaaGreatPa1
import Derived.BigRegion
import Derived.Test.YtpdgpgbgakinlaaGreatPa4
import Derived.Deep.LoopGhost
import Derived.Test.YtpdgpgbgakinlaaGreatPa8
import Derived.Test.YtpdgpgbgakinlaaGreatPa6
import Derived.Laws.IdiomCopy
import Derived.Lib.SliceRun
import Derived.Test.YtpdgpgbgakinlaaGreatPa3
import Derived.Test.YtpdgpgbgakinlaaGreatPa32
import Derived.Test.YtpdgpgbgakinlaaGreatPa22
namespace Go.Proofs.YtpdgpgbgakinlaaGreat
set_option linter.unusedVariables false
set_option linter.unusedSimpArgs false
inductive Wd (n : Nat) : Pm → List Int → Prop
  | nil : Wd n Pm.one []
  | cons (q : Pm) (k : Nat) (ws : List Int) : St q k → Wd n ((Pm.s k).m q) ws → Wd n q (((k : Int) + 1) :: ws)
theorem plN_suc (k : Nat) : plN ((k : Int) + 1) = k := by unfold plN; rw [if_neg (by omega)]; omega
theorem act_suc (n : Nat) (s : Stt) (k : Nat) : actS n s ((k : Int) + 1) = (s.1, s.2 ++ [Pm.s k]) := by unfold actS; rw [if_pos (by omega), plN_suc]
theorem wd_ltr {n : Nat} {q : Pm} {ws : List Int} (h : Wd n q ws) : Fx n q → ∀ x ∈ ws, Ltr n x := by
  induction h with
  | nil => intro _ x hx; simp at hx
  | cons q k ws hs _ ih =>
    intro hq x hx
    have hk := hq.st hs
    rcases List.mem_cons.1 hx with e | e
    · rw [e]; exact ⟨by omega, by rw [plN_suc]; exact hk⟩
    · exact ih ((Fx.s hk).m hq) x e
theorem wd_sim {n : Nat} {q : Pm} {ws : List Int} (h : Wd n q ws) : Fx n q → ∀ s : Stt, AFx n s.2 → Sim n (begS n s ws) (s.1, s.2 ++ [q]) := by
  induction h with
  | nil => intro _ s hs; exact (sim_one n s.1 s.2).symm
  | cons q k ws hst _ ih =>
    intro hq s hs
    have hk := hq.st hst
    have hf := Fx.s (n := n) hk
    have hL : AFx n (s.2 ++ [Pm.s k]) := hs.app fun p hp => by simp at hp; rw [hp]; exact hf
    have h1 := ih (hf.m hq) (s.1, s.2 ++ [Pm.s k]) hL
    have e1 : begS n s (((k : Int) + 1) :: ws) = begS n (s.1, s.2 ++ [Pm.s k]) ws := by
      show begS n (actS n s ((k : Int) + 1)) ws = _
      rw [act_suc]
    rw [e1]
    have h2 : Sim n (s.1, (s.2 ++ [Pm.s k]) ++ [(Pm.s k).m q]) (s.1, (s.2 ++ [q]) ++ [Pm.one]) := Sim.of (by
      have := (letter_join hq hst).ctx s.2 []
      simpa using this)
    have hq1 : AFx n (s.2 ++ [q]) := hs.app fun p hp => by simp at hp; rw [hp]; exact hq
    have hA : AFx n ((s.2 ++ [Pm.s k]) ++ [(Pm.s k).m q]) := hL.app fun p hp => by simp at hp; rw [hp]; exact hf.m hq
    have hB : AFx n ((s.2 ++ [q]) ++ [Pm.one]) := hq1.app fun p hp => by simp at hp; rw [hp]; exact Fx.one n
    exact Sim.trans hA h1 (Sim.trans hB h2 (sim_one n s.1 (s.2 ++ [q])))
end Go.Proofs.YtpdgpgbgakinlaaGreat

namespace Go.Proofs.YtpdgpgbgakinlaaGreat
set_option maxRecDepth 100000
set_option linter.unusedVariables false
set_option linter.unusedSimpArgs false
structure Rep (n : Nat) (G : Type) where
  mul : G → G → G
  one : G
  assoc : ∀ a b c, mul (mul a b) c = mul a (mul b c)
  one_mul : ∀ a, mul one a = a
  mul_one : ∀ a, mul a one = a
  s : Nat → G
  t : Nat → G
  st : ∀ k, k + 1 < n → mul (s k) (t k) = one
  ts : ∀ k, k + 1 < n → mul (t k) (s k) = one
  far : ∀ k l, k + 1 < l → l + 1 < n → mul (s k) (s l) = mul (s l) (s k)
  near : ∀ k, k + 2 < n → mul (s k) (mul (s (k + 1)) (s k)) = mul (s (k + 1)) (mul (s k) (s (k + 1)))
/-! ### lengths -/
def Pm.inv (p : Pm) : Pm := ⟨p.g, p.f, p.gf, p.fg⟩
/-! ### a permutation's element -/
variable {n : Nat} {G : Type} (R : Rep n G)
/-! ### the half twist -/
/-! ### lists -/
/-! ### powers -/
def pw (x : G) : Nat → G
  | 0 => R.one
  | k + 1 => R.mul (pw x k) x
/-! ### states -/
end Go.Proofs.YtpdgpgbgakinlaaGreat

namespace Go.Proofs.YtpdgpgbgakinlaaGreat
set_option maxRecDepth 100000
set_option linter.unusedVariables false
set_option linter.unusedSimpArgs false
theorem ltr_of {s x : Int} {n : Nat} (hn : s = n) (h : x ≠ 0 ∧ 1 - s ≤ x ∧ x ≤ s - 1) : Ltr n x := by
  refine ⟨h.1, ?_⟩
  unfold plN; split <;> omega
end Go.Proofs.YtpdgpgbgakinlaaGreat

namespace Go.Proofs.YtpdgpgbgakinlaaGreat
set_option maxRecDepth 100000
set_option linter.unusedVariables false
set_option linter.unusedSimpArgs false
open Go.RowKit
structure FRow (n : Nat) (w : World) (v : SV) (p : Pm) : Prop where
  own : Own w 0 v.1 n v.2.2 (toL n p)
  len : v.2.1 = n
  fx : Fx n p
structure Fac (n : Nat) (w : World) (lo : Nat) (a : Option Addr) (m c : Nat) (vs : List SV) (Y : List Pm) : Prop where
  hd : Hd w lo a m c vs
  len : m = Y.length
  row : ∀ i, i < m → FRow n w (vs.getD i svO) (Y.getD i Pm.one)
  ap : ∀ i, i < m → ∀ g, a = some ⟨g, 0, none⟩ → (vs.getD i svO).1 ≠ some ⟨g, 0, none⟩
section
variable {n : Nat} {w w' : World} {lo : Nat} {a : Option Addr} {m c : Nat} {vs : List SV} {Y : List Pm} {v : SV} {p : Pm}
theorem FRow.below (h : FRow n w v p) (hb : Below w.heap.size w w') : FRow n w' v p := ⟨h.own.below hb, h.len, h.fx⟩
theorem FRow.row (h : FRow n w v p) : Row w v.1 n (toL n p) := h.own.row
theorem Fac.nil (n : Nat) (w : World) (lo : Nat) : Fac n w lo none 0 0 [] [] := ⟨Hd.nil _ _, rfl, fun i h => absurd h (by omega), fun i h => absurd h (by omega)⟩
theorem Fac.fresh (n : Nat) (w : World) {b : Nat} (hb : b = w.heap.size) : Fac n (w.alloc (.cells #[] 27)) w.heap.size (some ⟨b, 0, none⟩) 0 0 [] [] :=
  ⟨Hd.fresh w hb, rfl, fun i h => absurd h (by omega), fun i h => absurd h (by omega)⟩
theorem Fac.below (h : Fac n w lo a m c vs Y) (hb : Below w.heap.size w w') : Fac n w' lo a m c vs Y := ⟨h.hd.below hb, h.len, fun i hi => (h.row i hi).below hb, h.ap⟩
theorem Fac.alloc (h : Fac n w lo a m c vs Y) (o : Obj) : Fac n (w.alloc o) lo a m c vs Y := h.below ((Below.refl _ _).alloc (Nat.le_refl _) o)
theorem Fac.drewN (h : Fac n w lo a m c vs Y) (k : Nat) : Fac n (w.drewN k) lo a m c vs Y := h.below (below_drewN (Below.refl _ _) k)
theorem Fac.mono {lo' : Nat} (h : Fac n w lo a m c vs Y) (hl : lo' ≤ lo) : Fac n w lo' a m c vs Y := ⟨h.hd.mono hl, h.len, h.row, h.ap⟩
theorem Fac.fx (h : Fac n w lo a m c vs Y) : AFx n Y := fun p hp => by
  obtain ⟨i, hi, rfl⟩ := List.getElem_of_mem hp
  have := (h.row i (by have := h.len; omega)).fx
  rw [List.getD_eq_getElem?_getD (l := Y), List.getElem?_eq_getElem hi] at this
  exact this
theorem Fac.cell (h : Fac n w lo a m c vs Y) {i : Nat} (hi : i < m) : ∃ g, a = some ⟨g, 0, none⟩ ∧ g < w.heap.size ∧ w.cell? ⟨g, i, none⟩ = some (sl (vs.getD i svO)) ∧ w.frozen? ⟨g, i, none⟩ = false := by
  rcases h.hd.block with ⟨h1, h2, h3⟩ | ⟨g, cur, h1, h2, h3, h4, h5, h6, h7⟩
  · omega
  · obtain ⟨b, off, e1, e2, e3⟩ := h.hd.read.2 i hi
    rw [h1] at e1; cases e1
    rw [Nat.zero_add] at e3
    exact ⟨g, h1, h3.lt, e3, h3.free i⟩
theorem Fac.tbl (h : Fac n w lo a m c vs Y) (hn : n ≤ 1000) : Tbl w a m (Y.map (toL n)) := by
  refine h.hd.read.tbl (by rw [List.length_map]; exact h.len) fun i hi => ?_
  have hr := h.row i hi
  have hi' : i < Y.length := by have := h.len; omega
  have e : (Y.map (toL n)).getD i [] = toL n (Y.getD i Pm.one) := by
    simp [List.getD_eq_getElem?_getD, List.getElem?_eq_getElem hi']
  rw [e, hr.len]
  exact ⟨hr.row, by omega⟩
theorem Fac.snoc {g cap : Nat} (h : Fac n w lo a m c vs Y) (hv : FRow n w v p) (hne : ∀ q, a = some ⟨q, 0, none⟩ → v.1 ≠ some ⟨q, 0, none⟩)
    (ho : Hd w' lo (some ⟨g, 0, none⟩) (m + 1) cap (vs ++ [v])) (hg : w.grownBy w' (Value.slice a m c).ownBlock) (hat : (Value.slice a m c).ownBlock = some g ∨ w.heap.size ≤ g) : Fac n w' lo (some ⟨g, 0, none⟩) (m + 1) cap (vs ++ [v]) (Y ++ [p]) := by
  have hob : ∀ q, (Value.slice a m c).ownBlock = some q → a = some ⟨q, 0, none⟩ := fun q hq => by
    rcases h.hd.block with ⟨h1, h2, h3⟩ | ⟨g', cur, h1, _⟩
    · rw [h1] at hq; cases hq
    · rw [h1] at hq; simp [Value.ownBlock] at hq; subst hq; exact h1
  have hl := h.len
  have hvl := h.hd.1
  have gl : ∀ i, i < m → (vs ++ [v]).getD i svO = vs.getD i svO := fun i hi => by simp [List.getD_eq_getElem?_getD, List.getElem?_append_left (show i < vs.length by omega)]
  have gn : (vs ++ [v]).getD m svO = v := by rw [← hvl]; simp [List.getD_eq_getElem?_getD]
  have yl : ∀ i, i < m → (Y ++ [p]).getD i Pm.one = Y.getD i Pm.one := fun i hi => by simp [List.getD_eq_getElem?_getD, List.getElem?_append_left (show i < Y.length by omega)]
  have yn : (Y ++ [p]).getD m Pm.one = p := by rw [hl]; simp [List.getD_eq_getElem?_getD]
  have keep : ∀ (u : SV) (q : Pm), FRow n w u q → (∀ b, a = some ⟨b, 0, none⟩ → u.1 ≠ some ⟨b, 0, none⟩) → FRow n w' u q := fun u q hu hne => ⟨hu.own.keep fun b hb hlt => hg.block b hlt fun e => hne b (hob b e.symm) hb, hu.len, hu.fx⟩
  refine ⟨ho, by simp [hl], fun i hi => ?_, fun i hi q hq => ?_⟩
  · by_cases e : i < m
    · rw [gl i e, yl i e]; exact keep _ _ (h.row i e) (h.ap i e)
    · obtain rfl : i = m := by omega
      rw [gn, yn]; exact keep _ _ hv hne
  · cases hq
    have fin : ∀ (u : SV) (q : Pm), FRow n w u q → (∀ b, a = some ⟨b, 0, none⟩ → u.1 ≠ some ⟨b, 0, none⟩) → u.1 ≠ some ⟨g, 0, none⟩ := fun u q hu hne e => by
      rcases hat with hat | hat
      · exact hne g (hob g hat) e
      · have := hu.own.hi g e; omega
    by_cases e : i < m
    · rw [gl i e]; exact fin _ _ (h.row i e) (h.ap i e)
    · obtain rfl : i = m := by omega
      rw [gn]; exact fin _ _ hv hne
theorem Fac.set {g i : Nat} (h : Fac n w lo (some ⟨g, 0, none⟩) m c vs Y) (hi : i < m) (hv : FRow n w v p) (hne : v.1 ≠ some ⟨g, 0, none⟩) : Fac n (w.setCell ⟨g, i, none⟩ (sl v)) lo (some ⟨g, 0, none⟩) m c (vs.set i v) (Y.set i p) := by
  have hvl := h.hd.1
  have hl := h.len
  have keep : ∀ (u : SV) (q : Pm), FRow n w u q → u.1 ≠ some ⟨g, 0, none⟩ → FRow n (w.setCell ⟨g, i, none⟩ (sl v)) u q := fun u q hu hne => ⟨hu.own.keep fun b hb hlt => Below.heap_setCell _ _ _ _ (fun e => hne (by rw [hb, e])), hu.len, hu.fx⟩
  have hap : ∀ k, k < m → (vs.getD k svO).1 ≠ some ⟨g, 0, none⟩ := fun k hk => h.ap k hk g rfl
  refine ⟨?_, by rw [List.length_set]; exact hl, fun k hk => ?_, fun k hk q hq => ?_⟩
  · rcases h.hd.block with ⟨h1, _⟩ | ⟨g', cur, h1, h2, h3, h4, h5, h6, h7⟩
    · cases h1
    · cases h1
      refine ⟨by rw [List.length_set]; exact hvl, ownsRow_mk (by rw [List.length_set]; exact hvl) h2 (h3.set i _) h4 h5 (by simpa using h6) ?_⟩
      rw [Array.toList_setIfInBounds, List.take_set, h7, List.map_set]
  · by_cases e : k = i
    · subst e
      rw [show (vs.set k v).getD k svO = v by simp [List.getD_eq_getElem?_getD, show k < vs.length by omega], show (Y.set k p).getD k Pm.one = p by simp [List.getD_eq_getElem?_getD, show k < Y.length by omega]]
      exact keep _ _ hv hne
    · rw [show (vs.set i v).getD k svO = vs.getD k svO by simp [List.getD_eq_getElem?_getD, List.getElem?_set_ne (fun h => e h.symm)], show (Y.set i p).getD k Pm.one = Y.getD k Pm.one by simp [List.getD_eq_getElem?_getD, List.getElem?_set_ne (fun h => e h.symm)]]
      exact keep _ _ (h.row k hk) (hap k hk)
  · cases hq
    by_cases e : k = i
    · subst e
      rw [show (vs.set k v).getD k svO = v by simp [List.getD_eq_getElem?_getD, show k < vs.length by omega]]; exact hne
    · rw [show (vs.set i v).getD k svO = vs.getD k svO by simp [List.getD_eq_getElem?_getD, List.getElem?_set_ne (fun h => e h.symm)]]; exact hap k hk
end
end Go.Proofs.YtpdgpgbgakinlaaGreat

namespace Go.Proofs.YtpdgpgbgakinlaaGreat
set_option maxRecDepth 100000
set_option linter.unusedVariables false
set_option linter.unusedSimpArgs false
open Go.RowKit
def Nw (w : World) (a a' : Option Addr) : Prop := a' = a ∨ ∀ g, a' = some ⟨g, 0, none⟩ → w.heap.size ≤ g
end Go.Proofs.YtpdgpgbgakinlaaGreat

namespace Go.Proofs.YtpdgpgbgakinlaaGreat
set_option maxRecDepth 100000
set_option linter.unusedVariables false
set_option linter.unusedSimpArgs false
open Go.RowKit
set_option maxHeartbeats 1000000 in
theorem increasing_any (a : Option Addr) (n c : Nat) (xs : List Int) (w : World) (h : Row w a n xs) (hm : n ≤ 1000000) :
    Calls Tryz.prog 148 #[.slice a n c] w fun e w' => e = .returned (.bool (incOk xs)) ∧ ∃ k, w' = w.drewN k := by
  have HL := Lib.hid h.len
  go_enter Tryz.func148, Tryz.ntmps148
  go_wp2
  go_loopw [3] (fun i wr => ∃ k : Nat, i = .int .i64 ((k + 1 : Nat) : Int) ∧ Hid (∀ j, j < k → j + 1 < n → xs.getD j 0 < xs.getD (j + 1) 0) ∧ ∃ m, wr = w.drewN m) (fun i _ => n - (intOf i).toNat)
  case atStart => exact ⟨0, rfl, Lib.hid fun j hj => absurd hj (by omega), 0, rfl⟩
  case round =>
    obtain ⟨k, rfl, hI, m, rfl⟩ := hrel
    by_cases hlt : k + 1 < n
    · obtain ⟨b1, o1, rfl, g1⟩ := h.at k (by omega)
      obtain ⟨b2, o2, e2, g2⟩ := h.at (k + 1) hlt
      cases e2
      have i1 : IntKind.i64.wrap (((k + 1 : Nat) : Int) - 1) = (k : Int) := (IntWalk.i64_in _ (by omega)).trans (by omega)
      have i2 : (0 : Int) ≤ (k : Int) := by omega
      have i3 : (k : Int) < (n : Int) := by omega
      have i4 : (0 : Int) ≤ ((k + 1 : Nat) : Int) := by omega
      have i5 : ((k + 1 : Nat) : Int) < (n : Int) := by omega
      have i6 : (((k + 1 : Nat) : Int)).toNat = k + 1 := by omega
      clear h
      generalize hX : xs.getD k 0 = X at *
      generalize hY : xs.getD (k + 1) 0 = Y at *
      have HX := Lib.hid hX; have HY := Lib.hid hY
      clear hX hY
      have HI2 : Hid (((k + 1 : Nat) : Int) = ((k + 1 : Nat) : Int)) := Lib.hid rfl
      generalize hK : ((k + 1 : Nat) : Int) = K at *
      have HK := Lib.hid hK
      clear hK
      go_wp2
      go_quiet (fail)
      by_cases hge : X ≥ Y
      · go_wp2
        go_ret
        refine ⟨ret_bool ?_, m + nq, by rw [World.drewN_drewN]⟩
        rw [eq_comm]
        exact allN_no (k := k) (by have := HL.out; omega) (by rw [HX.out, HY.out]; simpa using hge)
      · go_wp2
        go_roundw
        case rel =>
          refine ⟨k + 1, by rw [← HK.out]; go_num, Lib.hid fun j hj hj2 => ?_, m + nq, rfl⟩
          by_cases e : j = k
          · subst e; rw [HX.out, HY.out]; omega
          · exact hI.out j (by omega) hj2
        case measure => rw [← HK.out] at *; simp [intOf]; omega
    · go_wp2
      go_ret
      refine ⟨ret_bool ?_, _, rfl⟩
      rw [eq_comm]
      exact allN_mk fun j hj => decide_eq_true (hI.out j (by have := HL.out; omega) (by have := HL.out; omega))
theorem isIdentity_any (a : Option Addr) (n c : Nat) (xs : List Int) (w : World) (h : Row w a n xs) (hm : n ≤ 1000000) :
    Calls Tryz.prog 104 #[.slice a n c] w fun e w' => e = .returned (.bool (incOk xs)) ∧ Below w.heap.size w w' := by
  go_enter Tryz.func104, Tryz.ntmps104
  go_wp2_with fail
  refine (increasing_any _ _ _ xs _ h hm).mono ?_
  rintro e w1 ⟨rfl, k, rfl⟩
  go_wp2
  go_ret
  exact ⟨rfl, below_drewN (Below.refl _ _) k⟩
theorem knk_step (n : Nat) (t : List (List Int)) (j : Nat) (h : j < n) : ((knkL n t).take j ++ List.replicate (n - j) 0).set j ((tv t j j : Nat) : Int) = (knkL n t).take (j + 1) ++ List.replicate (n - (j + 1)) 0 := rowP_step n (fun x => ((tv t x x : Nat) : Int)) j h
set_option maxHeartbeats 1000000 in
theorem kinkOf_any (a : Option Addr) (n c : Nat) (f : List (List Int)) (w : World) (h : Tbl w a n f) (hf : Sq n f) (hn1 : 1 ≤ n) (hn : n ≤ 12) :
    Calls Tryz.prog 105 #[rAgg a n c] w fun e w' => ∃ a' c', e = .returned (.slice a' n c') ∧ Own w' w.heap.size a' n c' (knkL n f) ∧ Below w.heap.size w w' := by
  have hA := Loc.new w rfl #[.slice a n c] 45
  have hB := below_al (Below.refl w.heap.size w) (.cells #[.slice a n c] 45)
  have hz := hA.lt
  obtain ⟨bf, of, A, O, C, rfl, gf⟩ := h.grid hf (by omega)
  clear h
  have HF := Lib.hid hf; clear hf
  have lA := hA.one
  go_enter Tryz.func105, Tryz.ntmps105
  generalize hw0 : w.alloc (.cells #[.slice (some ⟨bf, of, none⟩) n c] 45) = w0 at *
  go_wp2_with (at_make; refine make1 rfl rfl rfl rfl (by omega) ?_; intro w1 ho hs hb)
  have hA1 := hA.below hb hA.lt
  have hB1 := below_th hB hb
  go_loopw [11] (fun i wr => ∃ k : Nat, k ≤ n ∧ i = .int .i64 k ∧ Own wr w0.heap.size (some ⟨w0.heap.size, 0, none⟩) n n ((knkL n f).take k ++ List.replicate (n - k) 0) ∧ Loc wr w.heap.size #[.slice (some ⟨bf, of, none⟩) n c] 45 ∧ Below w.heap.size w wr) (fun i _ => n - (intOf i).toNat)
  case atStart => exact ⟨0, Nat.zero_le _, rfl, by simpa using ho, hA1, hB1⟩
  case round =>
    clear ho hb hA1 hB1 lA hA hs
    obtain ⟨k, hk, rfl, ho, hA, hB2⟩ := hrel
    by_cases hlt : k < n
    · obtain ⟨r1, k1⟩ := (gf.below hB2).look hlt hlt
      have lA := hA.one
      obtain ⟨_, hc, hfz⟩ := ho.cells
      have hc1 := hc k hlt
      have hf1 := hfz k
      have hset := Lib.hid (ho.set k ((tv f k k : Nat) : Int))
      have HST := Lib.hid (knk_step n f k hlt)
      clear hc hfz
      generalize tv f k k = V at *
      go_wp2
      go_roundw
      case rel => exact ⟨k + 1, by omega, by go_num, by rw [← HST.out]; exact hset.out, hA.setne (a := ⟨w0.heap.size, k, none⟩) (by show w.heap.size ≠ w0.heap.size; omega) _, below_setne hB2 (by show w.heap.size ≤ w0.heap.size; omega) _⟩
      case measure => simp [intOf]; omega
    · obtain rfl : k = n := by omega
      go_wp2
      go_ret
      refine ⟨_, _, rfl, ?_, hB2⟩
      rw [List.take_of_length_le (by rw [knk_len]; exact Nat.le_refl _), Nat.sub_self, List.replicate_zero, List.append_nil] at ho
      exact ho.mono (by omega)
end Go.Proofs.YtpdgpgbgakinlaaGreat

namespace Go.Proofs.YtpdgpgbgakinlaaGreat
set_option maxRecDepth 100000
set_option linter.unusedVariables false
set_option linter.unusedSimpArgs false
open Go.RowKit
theorem FRow.set {n : Nat} {w : World} {u : SV} {q : Pm} {g i : Nat} {x : Value} (hu : FRow n w u q) (hne : u.1 ≠ some ⟨g, 0, none⟩) : FRow n (w.setCell ⟨g, i, none⟩ x) u q :=
  ⟨hu.own.keep fun b hb hlt => Below.heap_setCell _ _ _ _ (fun e => hne (by rw [hb, e])), hu.len, hu.fx⟩
theorem Nw.ne {w : World} {a a' : Option Addr} {g : Nat} (h : Nw w a a') (hg : g < w.heap.size) (hne : a ≠ some ⟨g, 0, none⟩) : a' ≠ some ⟨g, 0, none⟩ := fun e => by
  rcases h with h | h
  · rw [h] at e; exact hne e
  · have := h g e; omega
end Go.Proofs.YtpdgpgbgakinlaaGreat

namespace Go.Proofs.YtpdgpgbgakinlaaGreat
set_option maxRecDepth 100000
set_option linter.unusedVariables false
set_option linter.unusedSimpArgs false
open Go.RowKit
theorem br_ltr {n : Nat} {xs : List Int} (hb : isBr n xs = true) : 2 ≤ n ∧ n ≤ 6 ∧ xs.length ≤ 30 ∧ ∀ x ∈ xs, Ltr n x := by
  obtain ⟨h26, h30, hlet⟩ := isBr_let hb
  exact ⟨by omega, by omega, h30, fun x hx => ltr_of rfl (hlet x hx)⟩
end Go.Proofs.YtpdgpgbgakinlaaGreat

namespace Go.Proofs.YtpdgpgbgakinlaaGreat
set_option maxRecDepth 100000
set_option linter.unusedVariables false
set_option linter.unusedSimpArgs false
def FixT (n s : Nat) (f g : List (List Int)) (xs l : List Int) : Prop := l.length = s ∧ Less n l ∧ actL n f g xs l = l
theorem cols_mem {n s : Nat} {f g : List (List Int)} {xs l : List Int} (hn : 1 ≤ n) : l ∈ colsL n s f g xs ↔ FixT n s f g xs l := by
  unfold colsL colsK
  rw [List.mem_map]
  constructor
  · rintro ⟨N, hN, rfl⟩
    have := (List.mem_filter.1 hN).2
    unfold colAt at this
    exact ⟨digL_len n s N, digL_less n s N hn, of_decide_eq_true this⟩
  · rintro ⟨h1, h2, h3⟩
    have hd := digL_num hn h1 h2
    refine ⟨numL n l, List.mem_filter.2 ⟨List.mem_range.2 (by have := numL_lt hn h2; rw [h1] at this; exact this), ?_⟩, hd⟩
    unfold colAt
    rw [hd]
    exact decide_eq_true h3
theorem cols_nd {n s : Nat} {f g : List (List Int)} {xs : List Int} : (colsL n s f g xs).Nodup := by
  unfold colsL colsK
  rw [List.nodup_iff_pairwise_ne, List.pairwise_map]
  refine List.Pairwise.imp_of_mem ?_ (List.Pairwise.filter _ List.pairwise_lt_range)
  intro a b ha hb hab e
  have h1 := numL_dig s a (List.mem_range.1 (List.mem_filter.1 ha).1)
  have h2 := numL_dig s b (List.mem_range.1 (List.mem_filter.1 hb).1)
  rw [e] at h1
  omega
section
variable {n : Nat} {f g : List (List Int)}
theorem step_forth (hn : 1 ≤ n) (hf : Sq n f) (hg : Sq n g) (hc : collOk n f g = true) {x : Int} {l : List Int} (hx : x ≠ 0) (hi : (plc x).toNat + 1 < l.length) (h : Less n l) : stepL n f g x (stepL n f g (-x) l) = l := by
  have := step_back hn hf hg hc (x := -x) (l := l) (by omega) (by rw [plc_neg hx]; exact hi) h
  rw [Int.neg_neg] at this
  exact this
/-! ### one more strand -/
theorem doF_snoc (f g : List (List Int)) {i : Nat} {l : List Int} {z : Int} (hi : i + 1 < l.length) : doF f g i (l ++ [z]) = doF f g i l ++ [z] := by
  unfold doF
  have e1 : (l ++ [z]).getD i 0 = l.getD i 0 := by simp [List.getD_eq_getElem?_getD, List.getElem?_append_left (show i < l.length by omega)]
  have e2 : (l ++ [z]).getD (i + 1) 0 = l.getD (i + 1) 0 := by simp [List.getD_eq_getElem?_getD, List.getElem?_append_left hi]
  rw [e1, e2, List.set_append_left _ _ (by omega), List.set_append_left _ _ (by rw [List.length_set]; omega)]
theorem step_snoc (n : Nat) (f g : List (List Int)) {x : Int} {l : List Int} {z : Int} (hi : (plc x).toNat + 1 < l.length) : stepL n f g x (l ++ [z]) = stepL n f g x l ++ [z] := by
  unfold stepL; split <;> exact doF_snoc _ _ hi
theorem act_snoc (n : Nat) (f g : List (List Int)) (z : Int) : ∀ (xs l : List Int), (∀ x ∈ xs, (plc x).toNat + 1 < l.length) → actL n f g xs (l ++ [z]) = actL n f g xs l ++ [z] := by
  intro xs
  induction xs with
  | nil => intro l _; rfl
  | cons x xs ih =>
    intro l hx
    have e1 : ∀ m, actL n f g (x :: xs) m = actL n f g xs (stepL n f g x m) := fun m => rfl
    rw [e1, e1, step_snoc n f g (hx x (by simp)), ih _ (fun y hy => by rw [stepL_len]; exact hx y (by simp [hy]))]
theorem doF_last (f g : List (List Int)) {s : Nat} {l : List Int} {y z : Int} (hl : l.length = s) : doF f g s (l ++ [y] ++ [z]) = l ++ [((tv f y.toNat z.toNat : Nat) : Int)] ++ [((tv g y.toNat z.toNat : Nat) : Int)] := by
  subst hl
  unfold doF
  simp [List.getD_eq_getElem?_getD]
theorem snoc_of {s : Nat} {l : List Int} (h : l.length = s + 1) : ∃ m y, l = m ++ [y] ∧ m.length = s := by
  refine ⟨l.take s, l.getD s 0, ?_, by rw [List.length_take]; omega⟩
  have : l = l.take (s + 1) := by rw [List.take_of_length_le (by omega)]
  conv => lhs; rw [this]
  rw [List.take_succ_eq_append_getElem (by omega), List.getD_eq_getElem?_getD, List.getElem?_eq_getElem (by omega), Option.getD_some]
theorem less_snoc2 {m : List Int} {y : Int} (h : Less n (m ++ [y])) : Less n m ∧ ∃ k : Nat, k < n ∧ y = (k : Int) := by
  constructor
  · intro i hi
    obtain ⟨k, hk, e⟩ := h i (by rw [List.length_append]; omega)
    rw [List.getD_eq_getElem?_getD, List.getElem?_append_left hi, ← List.getD_eq_getElem?_getD] at e
    exact ⟨k, hk, e⟩
  · obtain ⟨k, hk, e⟩ := h m.length (by simp)
    refine ⟨k, hk, ?_⟩
    simpa [List.getD_eq_getElem?_getD] using e
theorem snoc_less {m : List Int} {k : Nat} (h : Less n m) (hk : k < n) : Less n (m ++ [(k : Int)]) := fun i hi => by
  rw [List.length_append, List.length_singleton] at hi
  by_cases e : i < m.length
  · obtain ⟨q, hq, e2⟩ := h i e
    exact ⟨q, hq, by rw [List.getD_eq_getElem?_getD, List.getElem?_append_left e, ← List.getD_eq_getElem?_getD]; exact e2⟩
  · obtain rfl : i = m.length := by omega
    exact ⟨k, hk, by simp [List.getD_eq_getElem?_getD]⟩
theorem plc_p (s : Nat) : (plc ((s : Int) + 1)).toNat = s := by unfold plc; rw [if_neg (by omega)]; omega
theorem step_last (n : Nat) (f g : List (List Int)) {s : Nat} {l : List Int} {y z : Int} (hl : l.length = s) : stepL n f g ((s : Int) + 1) (l ++ [y] ++ [z]) = l ++ [((tv f y.toNat z.toNat : Nat) : Int)] ++ [((tv g y.toNat z.toNat : Nat) : Int)] := by
  unfold stepL
  rw [if_pos (by omega), plc_p]
  exact doF_last f g hl
theorem stab_fix (hn : 1 ≤ n) (hf : Sq n f) (hg : Sq n g) (hc : collOk n f g = true) (hq : ∀ x y, x < n → y < n → tv g x y = x) (hd : ∀ x, x < n → tv f x x = x) {s : Nat} {xs : List Int} {x : Int} (hx : x = (s : Int) + 1 ∨ x = -((s : Int) + 1)) (hxs : ∀ y ∈ xs, (plc y).toNat + 1 < s + 1) (L : List Int) : FixT n (s + 2) f g (xs ++ [x]) L ↔ ∃ l, FixT n (s + 1) f g xs l ∧ l ++ [l.getD s 0] = L := by
  have hw : ∀ (l : List Int) (z : Int), l.length = s + 1 → actL n f g (xs ++ [x]) (l ++ [z]) = stepL n f g x (actL n f g xs l ++ [z]) := fun l z hl => by
    rw [actL_app, act_snoc n f g z xs l (fun y hy => by rw [hl]; exact hxs y hy)]; rfl
  have hP : ∀ (l : List Int) (y z : Nat), l.length = s → y < n → z < n → stepL n f g ((s : Int) + 1) (l ++ [(y : Int)] ++ [(z : Int)]) = l ++ [((tv f y z : Nat) : Int)] ++ [(y : Int)] := fun l y z hl hy hz => by
    rw [step_last n f g hl, Int.toNat_natCast, Int.toNat_natCast, hq y z hy hz]
  have hpl : (plc ((s : Int) + 1)).toNat + 1 = s + 1 := by rw [plc_p]
  have hcut : ∀ {u v : List Int} {a b c d : Int}, u.length = v.length → u ++ [a] ++ [b] = v ++ [c] ++ [d] → u = v ∧ a = c ∧ b = d := fun hl e => by
    have e1 := List.append_inj' e rfl
    have e2 := List.append_inj' e1.1 rfl
    exact ⟨e2.1, by simpa using e2.2, by simpa using e1.2⟩
  constructor
  · rintro ⟨h1, h2, h3⟩
    obtain ⟨l, z, rfl, hl⟩ := snoc_of h1
    obtain ⟨h4, kz, hkz, rfl⟩ := less_snoc2 h2
    obtain ⟨m, y, rfl, hm⟩ := snoc_of hl
    obtain ⟨h5, ky, hky, rfl⟩ := less_snoc2 h4
    have hA := h4.act hn hf hg hc xs (fun y hy => by rw [hl]; exact hxs y hy)
    have hAl : (actL n f g xs (m ++ [(ky : Int)])).length = s + 1 := by rw [actL_len]; exact hl
    rw [hw _ _ hl] at h3
    obtain ⟨m', y', eA, hm'⟩ := snoc_of hAl
    rw [eA] at h3 hA
    obtain ⟨h6, ky', hky', rfl⟩ := less_snoc2 hA
    have hres : m' = m ∧ ky' = ky ∧ ky = kz := by
      rcases hx with rfl | rfl
      · rw [hP _ _ _ hm' hky' hkz] at h3
        obtain ⟨a1, a2, a3⟩ := hcut (by omega) h3
        have a4 : ky' = kz := by omega
        subst a4
        rw [hd ky' hky'] at a2
        exact ⟨a1, by omega, by omega⟩
      · have e := step_forth hn hf hg hc (x := (s : Int) + 1) (l := m' ++ [(ky' : Int)] ++ [(kz : Int)]) (by omega) (by rw [hpl]; simp; omega) (snoc_less hA hkz)
        rw [h3, hP _ _ _ hm hky hkz] at e
        obtain ⟨a1, a2, a3⟩ := hcut (by omega) e
        have a4 : ky = kz := by omega
        subst a4
        rw [hd ky hky] at a2
        exact ⟨a1.symm, by omega, rfl⟩
    obtain ⟨rfl, rfl, rfl⟩ := hres
    refine ⟨m' ++ [(ky' : Int)], ⟨hl, h4, eA⟩, ?_⟩
    congr 2
    subst hm'
    simp [List.getD_eq_getElem?_getD]
  · rintro ⟨l, ⟨h1, h2, h3⟩, rfl⟩
    obtain ⟨m, y, rfl, hm⟩ := snoc_of h1
    obtain ⟨h5, ky, hky, rfl⟩ := less_snoc2 h2
    have e0 : (m ++ [(ky : Int)]).getD s 0 = (ky : Int) := by subst hm; simp [List.getD_eq_getElem?_getD]
    rw [e0]
    refine ⟨by simp; omega, snoc_less h2 hky, ?_⟩
    rw [hw _ _ h1, h3]
    have e := hP m ky ky hm hky hky
    rw [hd ky hky] at e
    rcases hx with rfl | rfl
    · exact e
    · have e2 := step_back hn hf hg hc (x := (s : Int) + 1) (l := m ++ [(ky : Int)] ++ [(ky : Int)]) (by omega) (by rw [hpl]; simp; omega) (snoc_less h2 hky)
      rw [e] at e2
      exact e2
end
end Go.Proofs.YtpdgpgbgakinlaaGreat

namespace Go.Proofs.YtpdgpgbgakinlaaGreat
set_option linter.unusedVariables false
set_option linter.unusedSimpArgs false
def wtsK (n : Nat) (f g M : List (List Int)) (m : Int) (xs : List Int) (L : List (List Int)) (k : Nat) : List Int := (L.take k).map (wtF n f g M m xs)
section
variable {n s : Nat} {f g M : List (List Int)} {m : Int} {xs : List Int} {L : List (List Int)} {k : Nat}
theorem wtsK_zero : wtsK n f g M m xs L 0 = [] := by simp [wtsK]
theorem wtsK_succ (h : k < L.length) : wtsK n f g M m xs L (k + 1) = wtsK n f g M m xs L k ++ [wtF n f g M m xs (L.getD k [])] := by
  unfold wtsK
  rw [List.take_succ_eq_append_getElem h, List.map_append]
  simp [List.getD_eq_getElem?_getD, List.getElem?_eq_getElem h]
theorem wtsK_all : wtsK n f g M m xs L L.length = L.map (wtF n f g M m xs) := by simp [wtsK]
end
def cwF (f g : List (List Int)) (m : Int) (M : List (List Int)) (s : Int) (xs : List Int) : List Int × Int :=
  if isSol f g then (if isBr s xs then (if isMx f.length m M then (if wtFlt f.length f g M m = [] then (if f.length ^ s.toNat ≤ 5000 then ((colsL f.length s.toNat f g xs).map (wtF f.length f g M m xs), 0) else ([], 3)) else ([], 5)) else ([], 2)) else ([], 1)) else ([], 1)
section
variable {f g M : List (List Int)} {m s : Int} {xs : List Int}
theorem cwF_0 (h : isSol f g = false) : cwF f g m M s xs = ([], 1) := by unfold cwF; rw [h]; rfl
theorem cwF_1 (h : isSol f g = true) (h1 : isBr s xs = false) : cwF f g m M s xs = ([], 1) := by unfold cwF; rw [h, h1]; rfl
theorem cwF_2 (h : isSol f g = true) (h1 : isBr s xs = true) (h2 : isMx f.length m M = false) : cwF f g m M s xs = ([], 2) := by unfold cwF; rw [h, h1, h2]; rfl
theorem cwF_3 (h : isSol f g = true) (h1 : isBr s xs = true) (h2 : isMx f.length m M = true) (h3 : wtFlt f.length f g M m ≠ []) : cwF f g m M s xs = ([], 5) := by unfold cwF; rw [h, h1, h2]; simp [h3]
theorem cwF_4 (h : isSol f g = true) (h1 : isBr s xs = true) (h2 : isMx f.length m M = true) (h3 : wtFlt f.length f g M m = []) (h4 : ¬ f.length ^ s.toNat ≤ 5000) : cwF f g m M s xs = ([], 3) := by unfold cwF; rw [h, h1, h2, h3]; simp; omega
theorem cwF_5 (h : isSol f g = true) (h1 : isBr s xs = true) (h2 : isMx f.length m M = true) (h3 : wtFlt f.length f g M m = []) (h4 : f.length ^ s.toNat ≤ 5000) : cwF f g m M s xs = ((colsL f.length s.toNat f g xs).map (wtF f.length f g M m xs), 0) := by unfold cwF; rw [h, h1, h2, h3]; simp; omega
theorem Cw_len (f g : List (List Int)) (m : Int) (M : List (List Int)) (s : Int) (xs : List Int) : List.length (cwF f g m M s xs).1 ≤ 1000000 := by
  unfold cwF
  split
  · split
    · split
      · split
        · split
          · rename_i h
            simp only [List.length_map]
            have := colsK_len (n := f.length) (s := s.toNat) (f := f) (g := g) (xs := xs) (k := f.length ^ s.toNat)
            unfold colsL
            omega
          · simp
        · simp
      · simp
    · simp
  · simp
theorem cwF_code : (cwF f g m M s xs).2 = 0 → isSol f g = true ∧ isBr s xs = true ∧ isMx f.length m M = true ∧ wtFlt f.length f g M m = [] ∧ f.length ^ s.toNat ≤ 5000 := by
  unfold cwF
  split
  · rename_i h0
    split
    · rename_i h1
      split
      · rename_i h2
        split
        · rename_i h3
          split
          · rename_i h4; intro _; exact ⟨h0, h1, h2, h3, h4⟩
          · intro h; simp at h
        · intro h; simp at h
      · intro h; simp at h
    · intro h; simp at h
  · intro h; simp at h
theorem wtF_bd {n : Nat} {l : List Int} (h : 1 ≤ m) : 0 ≤ wtF n f g M m xs l ∧ wtF n f g M m xs l < m := ⟨Int.emod_nonneg _ (by omega), Int.emod_lt_of_pos _ (by omega)⟩
theorem cwF_bd (h : (cwF f g m M s xs).2 = 0) : (1 ≤ m ∧ m ≤ 12) ∧ ∀ x ∈ (cwF f g m M s xs).1, 0 ≤ x ∧ x < m := by
  obtain ⟨h0, h1, h2, h3, h4⟩ := cwF_code h
  have hm := (isMx_sq h2).1
  refine ⟨hm, ?_⟩
  rw [cwF_5 h0 h1 h2 h3 h4]
  intro x hx
  obtain ⟨l, _, rfl⟩ := List.mem_map.1 hx
  exact wtF_bd hm.1
end
def cntL (m : Nat) (L : List Int) : List Int := L.foldl (fun C x => C.set x.toNat (C.getD x.toNat 0 + 1)) (List.replicate m 0)
theorem cntL_take {m : Nat} {L : List Int} {k : Nat} (h : k < L.length) : cntL m (L.take (k + 1)) = (cntL m (L.take k)).set (L.getD k 0).toNat ((cntL m (L.take k)).getD (L.getD k 0).toNat 0 + 1) := by
  unfold cntL
  rw [List.take_succ_eq_append_getElem h, List.foldl_append]
  simp [List.getD_eq_getElem?_getD, List.getElem?_eq_getElem h]
theorem cntL_bd (m : Nat) (L : List Int) (i : Nat) : 0 ≤ (cntL m L).getD i 0 ∧ (cntL m L).getD i 0 ≤ L.length := by
  have : ∀ (C : List Int) (b : Int), (∀ i, 0 ≤ C.getD i 0 ∧ C.getD i 0 ≤ b) → ∀ i, 0 ≤ (L.foldl (fun C x => C.set x.toNat (C.getD x.toNat 0 + 1)) C).getD i 0 ∧ (L.foldl (fun C x => C.set x.toNat (C.getD x.toNat 0 + 1)) C).getD i 0 ≤ b + L.length := by
    induction L with
    | nil => intro C b h i; have := h i; simpa using this
    | cons x r ih =>
      intro C b h i
      rw [List.foldl_cons]
      have := ih (C.set x.toNat (C.getD x.toNat 0 + 1)) (b + 1) (fun j => by
        have h1 := h j
        have h2 := h x.toNat
        by_cases hj : j < C.length
        · by_cases e : j = x.toNat
          · subst e
            have : (C.set x.toNat (C.getD x.toNat 0 + 1)).getD x.toNat 0 = C.getD x.toNat 0 + 1 := by
              simp [List.getD_eq_getElem?_getD, List.getElem?_set, hj]
            rw [this]; omega
          · have : (C.set x.toNat (C.getD x.toNat 0 + 1)).getD j 0 = C.getD j 0 := by
              simp [List.getD_eq_getElem?_getD, List.getElem?_set, show x.toNat ≠ j from fun q => e q.symm]
            rw [this]; omega
        · have : (C.set x.toNat (C.getD x.toNat 0 + 1)).getD j 0 = 0 := by
            rw [List.getD_eq_getElem?_getD, List.getElem?_eq_none (by rw [List.length_set]; omega)]; rfl
          rw [this]
          omega) i
      rw [List.length_cons]
      push_cast
      omega
  have h := this (List.replicate m 0) 0 (fun j => by
    simp [List.getD_eq_getElem?_getD, List.getElem?_replicate]
    split <;> simp) i
  simpa [cntL] using h
def stF (f g : List (List Int)) (m : Int) (M : List (List Int)) (s : Int) (xs : List Int) : List Int × Int := if (cwF f g m M s xs).2 = 0 then (cntL m.toNat (cwF f g m M s xs).1, 0) else ([], (cwF f g m M s xs).2)
end Go.Proofs.YtpdgpgbgakinlaaGreat
