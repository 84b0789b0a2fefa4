/-
  Walks and plain laws of this seat, some texts in one.
  No condition but bounds on lengths.
-/
import Derived.Test.YtmncpnpjhchliaaBase
import Derived.Test.YtmncpnpjhchliaaBase2
import Derived.Deep.RegionLaw
import Derived.Deep.DeepCutAuto
import Derived.Deep.RegionHeld3
import Derived.Deep.LoopGhost
namespace Go.Proofs.Ytmncpnpjhchliaa
set_option maxRecDepth 100000
set_option linter.unusedVariables false
set_option linter.unusedSimpArgs false
open Go.RowKit

def conR (n : Nat) (z : Int) : List Int := (List.range n).map fun _ => z
theorem conR_len (n : Nat) (z : Int) : (conR n z).length = n := by simp [conR]
theorem conR_succ {n j : Nat} (z : Int) (h : j < n) : (conR n z).take (j + 1) = (conR n z).take j ++ [z] := by
  rw [List.take_succ_eq_append_getElem (by rw [conR_len]; exact h)]; simp [conR]
/-- rows that are all p -/
def repT (n : Nat) (p : List Int) : List (List Int) := List.replicate n p
/-- rows of one number each -/
def colT (n : Nat) (q : List Int) : List (List Int) := (List.range n).map fun x => conR n (q.getD x 0)
theorem repT_succ {n k : Nat} (p : List Int) (h : k < n) : (repT n p).take (k + 1) = (repT n p).take k ++ [p] := by
  rw [List.take_succ_eq_append_getElem (by simp [repT]; exact h)]; simp [repT]
theorem colT_succ {n k : Nat} (q : List Int) (h : k < n) : (colT n q).take (k + 1) = (colT n q).take k ++ [conR n (q.getD k 0)] := by
  rw [List.take_succ_eq_append_getElem (by simp [colT]; exact h)]; simp [colT]

theorem rep_2 : repT 2 (unitL 2) = [[0, 1], [0, 1]] := by decide
theorem col_2 : colT 2 (unitL 2) = [[0, 0], [1, 1]] := by decide

/-- two rows that are typed out -/
theorem OwnT.lit2 {w : World} {lo b b1 b2 : Nat} {x1 y1 x2 y2 : Int} (h : Loc w b #[.slice (some ⟨b1, 0, none⟩) 2 2, .slice (some ⟨b2, 0, none⟩) 2 2] 37) (h1 : Loc w b1 #[.int .i64 x1, .int .i64 y1] 2) (h2 : Loc w b2 #[.int .i64 x2, .int .i64 y2] 2) (e1 : b ≠ b1) (e2 : b ≠ b2) (e3 : b1 ≠ b2) (l0 : lo ≤ b) (l1 : lo ≤ b1) (l2 : lo ≤ b2) :
    OwnT w lo (some ⟨b, 0, none⟩) 2 2 [(some ⟨b1, 0, none⟩, 2, 2), (some ⟨b2, 0, none⟩, 2, 2)] [[x1, y1], [x2, y2]] := by
  have o1 : Own w lo (some ⟨b1, 0, none⟩) 2 2 [x1, y1] := Own.mk rfl l1 h1 (Nat.le_refl _) (by unfold maxLen; omega) rfl rfl
  have o2 : Own w lo (some ⟨b2, 0, none⟩) 2 2 [x2, y2] := Own.mk rfl l2 h2 (Nat.le_refl _) (by unfold maxLen; omega) rfl rfl
  refine ⟨rfl, rfl, ownsRow_mk rfl l0 h (Nat.le_refl _) (by unfold maxLen; omega) rfl rfl, fun i hi => ?_, fun i hi => ?_, fun i j hi hj hij => ?_⟩
  · match i, hi with
    | 0, _ => exact o1
    | 1, _ => exact o2
  · match i, hi with
    | 0, _ => intro g h h'; cases h; cases h'; exact e1 rfl
    | 1, _ => intro g h h'; cases h; cases h'; exact e2 rfl
  · match i, hi, j, hj with
    | 0, _, 0, _ => exact absurd rfl hij
    | 0, _, 1, _ => intro g h h'; cases h; cases h'; exact e3 rfl
    | 1, _, 0, _ => intro g h h'; cases h; cases h'; exact e3 rfl
    | 1, _, 1, _ => exact absurd rfl hij

end Go.Proofs.Ytmncpnpjhchliaa

namespace Go.Proofs.Ytmncpnpjhchliaa
set_option maxRecDepth 100000
set_option linter.unusedVariables false
set_option linter.unusedSimpArgs false
open Go.RowKit

theorem wp_app1h {o : Oper} {a : Act} {K : Act → World → Prop} {Q : Exit → Act → World → Prop} {w : World} {s x : Operand}
    (ho : o.op = .call { callee := .builtin .append, args := #[s, x], argTypes := #[37, 37] }) {lo : Nat} {ad : Option Addr} {n c : Nat} {xs : List Int} (hown : Own w lo ad n c xs) (hs : a.eval s = .slice ad n c)
    {y : Int} {t : TypeId} (hx : a.eval x = .slice (some ⟨w.heap.size, 0, none⟩) 1 1) (hlen : n + 1 ≤ 1000000000000) (hlo : lo ≤ w.heap.size)
    (h : ∀ g c' w', Own w' lo (some ⟨g, 0, none⟩) (n + 1) c' (xs ++ [y]) → w.grownBy w' (Value.slice ad n c).ownBlock → ((Value.slice ad n c).ownBlock = some g ∨ w.heap.size ≤ g) → Below lo w w' → K (a.put o.dst (.slice (some ⟨g, 0, none⟩) (n + 1) c')) w') :
    Oper.wp Try.prog o a (w.alloc (.cells #[.int .i64 y] t)) K Q := by
  obtain ⟨i0, hi, hz0, hz1, hz2⟩ := info_parts info_int
  refine wp_append_lies _ s x 37 ho lo 2 i0 (.int .i64 0) 1 8 und_ints hi hz0 hz1 hz2 rfl (by decide) _ n (xs.map (.int .i64)) hs (hown.2.alloc _) ⟨w.heap.size, 0, none⟩ 1 1 [.int .i64 y] hx rfl (cell_one_new _ _ _) ?_ (by omega) ?_ ?_ ?_ (w.heap.size + 1) (by simp) ?_
  · intro u hu; simp at hu; subst hu; rfl
  · unfold maxLen; omega
  · omega
  · simp; omega
  · intro g cap w' ho' hg hat hlt
    have hg' : w.grownBy w' (Value.slice ad n c).ownBlock := by
      have h1 := World.grownBy_alloc w (.cells #[.int .i64 y] t) (Value.slice ad n c).ownBlock
      exact ⟨hg.os.trans h1.os, hg.tape.trans h1.tape, hg.output.trans h1.output, Nat.le_trans h1.size hg.size, fun k hk hn => (hg.block k (Nat.lt_of_lt_of_le hk h1.size) hn).trans (h1.block k hk hn)⟩
    have hat' : (Value.slice ad n c).ownBlock = some g ∨ w.heap.size ≤ g := by
      rcases hat with hat | hat
      · exact .inl hat
      · exact .inr (by omega)
    exact h g cap w' ⟨by simp [hown.1], by simpa using ho'⟩ hg' hat' ((Below.refl _ _).grown hg' hlo (fun k hk => (World.ownsRow.lt hown.2 k hk).1))
theorem app1h {ops : Array Oper} {rest : List Oper} {o : Oper} {a : Act} {Q : Exit → Act → World → Prop} {w : World} (hgd : o.guard = none) {s x : Operand}
    (ho : o.op = .call { callee := .builtin .append, args := #[s, x], argTypes := #[37, 37] }) {lo : Nat} {ad : Option Addr} {n c : Nat} {xs : List Int} (hown : Own w lo ad n c xs) (hs : a.eval s = .slice ad n c)
    {y : Int} {t : TypeId} (hx : a.eval x = .slice (some ⟨w.heap.size, 0, none⟩) 1 1) (hlen : n + 1 ≤ 1000000000000) (hlo : lo ≤ w.heap.size)
    (h : ∀ g c' w', Own w' lo (some ⟨g, 0, none⟩) (n + 1) c' (xs ++ [y]) → w.grownBy w' (Value.slice ad n c).ownBlock → ((Value.slice ad n c).ownBlock = some g ∨ w.heap.size ≤ g) → Below lo w w' → wpList Try.prog ops Q rest (a.put o.dst (.slice (some ⟨g, 0, none⟩) (n + 1) c')) w') :
    wpList Try.prog ops Q (o :: rest) a (w.alloc (.cells #[.int .i64 y] t)) :=
  wpList_plain hgd fun _ hK => wp_app1h ho hown hs hx hlen hlo fun g c' w' a b c d => hK _ _ (h g c' w' a b c d)
theorem step_app1hn {ops : Array Oper} {o : Oper} {a : Act} {K : Act → World → Prop} {Q : Exit → Act → World → Prop} {E : Prop} {w : World} (hgd : o.guard = none) {s x : Operand}
    (ho : o.op = .call { callee := .builtin .append, args := #[s, x], argTypes := #[37, 37] }) {lo : Nat} {ad : Option Addr} {n c : Nat} {xs : List Int} (hown : Own w lo ad n c xs) (hs : a.eval s = .slice ad n c)
    {y : Int} {t : TypeId} (hx : a.eval x = .slice (some ⟨w.heap.size, 0, none⟩) 1 1) (hlen : n + 1 ≤ 1000000000000) (hlo : lo ≤ w.heap.size)
    (h : ∀ g c' w', Own w' lo (some ⟨g, 0, none⟩) (n + 1) c' (xs ++ [y]) → w.grownBy w' (Value.slice ad n c).ownBlock → ((Value.slice ad n c).ownBlock = some g ∨ w.heap.size ≤ g) → Below lo w w' → K (a.put o.dst (.slice (some ⟨g, 0, none⟩) (n + 1) c')) w') :
    if Region.wanted o (yielded ops a.tmps) = true then Oper.wp Try.prog o a (w.alloc (.cells #[.int .i64 y] t)) K Q else E := by
  have hw : Region.wanted o (yielded ops a.tmps) = true := by simp [Region.wanted, hgd]
  rw [if_pos hw]
  exact wp_app1h ho hown hs hx hlen hlo h
/-- two slices in blocks of their own -/
def Apr (a b : Option Addr) : Prop := ∀ g, a = some ⟨g, 0, none⟩ → b = some ⟨g, 0, none⟩ → False
theorem Apr.symm {a b : Option Addr} (h : Apr a b) : Apr b a := fun g h1 h2 => h g h2 h1
/-- a slice beside one that grows -/
theorem Own.beside {w w' : World} {lo lo' : Nat} {a b : Option Addr} {n c m d : Nat} {xs ys : List Int} (h : Own w lo a n c xs) (hb : Own w lo' b m d ys) (hap : Apr a b) (hg : w.grownBy w' (Value.slice b m d).ownBlock) : Own w' lo a n c xs :=
  h.grown hg fun g e he => by
    rcases hb.block with ⟨rfl, rfl, rfl⟩ | ⟨g', cur, rfl, _⟩
    · simp [Value.ownBlock] at he
    · simp [Value.ownBlock] at he; subst he; exact hap g e rfl
theorem Own.apart {w : World} {lo lo' : Nat} {a b : Option Addr} {n c m d : Nat} {xs ys : List Int} {g : Nat} (h : Own w lo a n c xs) (hb : Own w lo' b m d ys) (hap : Apr a b) (hat : (Value.slice b m d).ownBlock = some g ∨ w.heap.size ≤ g) : Apr a (some ⟨g, 0, none⟩) := fun q e1 e2 => by
  obtain rfl : g = q := by simpa using e2
  rcases hat with hat | hat
  · rcases hb.block with ⟨rfl, rfl, rfl⟩ | ⟨g', cur, rfl, _⟩
    · simp [Value.ownBlock] at hat
    · simp [Value.ownBlock] at hat; subst hat; exact hap _ e1 rfl
  · have := h.hi _ e1; omega
end Go.Proofs.Ytmncpnpjhchliaa

namespace Go.Proofs.Ytmncpnpjhchliaa
set_option maxRecDepth 100000
set_option linter.unusedVariables false
set_option linter.unusedSimpArgs false
open Go.RowKit

def rnV (t : List (List Int)) (p : List Int) (x y : Nat) : Int := p.getD (tv t ((backF p).getD x 0).toNat ((backF p).getD y 0).toNat) 0
def rnL (n : Nat) (t : List (List Int)) (p : List Int) : List (List Int) := tabF n (rnV t p)

end Go.Proofs.Ytmncpnpjhchliaa

namespace Go.Proofs.Ytmncpnpjhchliaa
set_option maxRecDepth 100000
set_option linter.unusedVariables false
set_option linter.unusedSimpArgs false
open Go.RowKit

theorem sq_tabF {n : Nat} {t : List (List Int)} (h : Sq n t) : tabF n (fun x y => (t.getD x []).getD y 0) = t := by
  apply List.ext_getElem
  · simp [tabF, h.1]
  · intro i h1 h2
    have hi : i < n := by simpa [tabF] using h1
    have hl := (h.2 i hi).1
    rw [List.getD_eq_getElem?_getD, List.getElem?_eq_getElem h2, Option.getD_some] at hl
    apply List.ext_getElem
    · simp [tabF, hl]
    · intro j h3 h4
      simp [tabF, List.getD_eq_getElem?_getD, List.getElem?_eq_getElem h2, List.getElem?_eq_getElem h4]
def imgI (t : List (List Int)) (p : List Int) (x y : Nat) : Int := p.getD (tv t x y) 0
/-- the pairs ahead of (x, y) are stored -/
def ImgK (n : Nat) (t : List (List Int)) (p : List Int) (V : Nat → Nat → Int) (x y : Nat) : Prop := ∀ x' y', x' < n → y' < n → (x' < x ∨ x' = x ∧ y' < y) → V (p.getD x' 0).toNat (p.getD y' 0).toNat = imgI t p x' y'
theorem ImgK.step {n : Nat} {t : List (List Int)} {p : List Int} {V : Nat → Nat → Int} {x y u v : Nat} (hP : IsP n p) (h : ImgK n t p V x y) (hx : x < n) (hy : y < n) (hu : (p.getD x 0).toNat = u) (hv : (p.getD y 0).toNat = v) : ImgK n t p (updQ V u v (imgI t p x y)) x (y + 1) := by
  obtain ⟨f, g, hl, h1, h2⟩ := hP
  have hf : ∀ i, i < n → (p.getD i 0).toNat = f i := fun i hi => by rw [h2 i hi, Int.toNat_natCast]
  have inj : ∀ i j, i < n → j < n → f i = f j → i = j := fun i j hi hj e => by rw [← (h1 i hi).2.2.2, ← (h1 j hj).2.2.2, e]
  intro x' y' hx' hy' hq
  unfold updQ
  by_cases e : x' = x ∧ y' = y
  · obtain ⟨rfl, rfl⟩ := e
    rw [if_pos ⟨hu, hv⟩]
  · rw [if_neg, h x' y' hx' hy' (by omega)]
    rintro ⟨e1, e2⟩
    rw [← hu, hf _ hx', hf _ hx] at e1
    rw [← hv, hf _ hy', hf _ hy] at e2
    exact e ⟨inj _ _ hx' hx e1, inj _ _ hy' hy e2⟩
theorem ImgK.next {n : Nat} {t : List (List Int)} {p : List Int} {V : Nat → Nat → Int} {x : Nat} (h : ImgK n t p V x n) : ImgK n t p V (x + 1) 0 := fun x' y' hx' hy' hq => h x' y' hx' hy' (by omega)
theorem backF_at {n : Nat} {p : List Int} (hP : IsP n p) : ∀ u, u < n → ∃ q : Nat, (backF p).getD u 0 = q ∧ q < n ∧ p.getD q 0 = u := by
  obtain ⟨f, g, hp⟩ := hP
  have hb := backK_get n p f g hp n (Nat.le_refl _)
  obtain ⟨hl, h1, h2⟩ := hp
  intro u hu
  refine ⟨g u, ?_, (h1 u hu).2.1, ?_⟩
  · unfold backF; rw [hl, hb u hu, if_pos (h1 u hu).2.1]
  · rw [h2 (g u) (h1 u hu).2.1, (h1 u hu).2.2.1]
theorem ImgK.done {n : Nat} {t : List (List Int)} {p : List Int} {V : Nat → Nat → Int} (hP : IsP n p) (h : ImgK n t p V n 0) : tabF n V = rnL n t p := by
  refine tabQ_congr fun u v hu hv => ?_
  obtain ⟨q, e1, h1, e2⟩ := backF_at hP u hu
  obtain ⟨r, e3, h3, e4⟩ := backF_at hP v hv
  have := h q r h1 h3 (.inl h1)
  rw [e2, e4, Int.toNat_natCast, Int.toNat_natCast] at this
  rw [this]
  unfold rnV imgI
  rw [e1, e3, Int.toNat_natCast, Int.toNat_natCast]

end Go.Proofs.Ytmncpnpjhchliaa

namespace Go.Proofs.Ytmncpnpjhchliaa
set_option maxRecDepth 100000
set_option linter.unusedVariables false
set_option linter.unusedSimpArgs false

theorem tabF_tv {n : Nat} {v : Nat → Nat → Int} {x y : Nat} (hx : x < n) (hy : y < n) : tv (tabF n v) x y = (v x y).toNat := by
  unfold tv
  rw [tabF_get _ _ _ hx]
  simp [List.getD_eq_getElem?_getD, hy]
theorem tabF_sqI {n : Nat} {v : Nat → Nat → Int} (h : ∀ x y, x < n → y < n → 0 ≤ v x y ∧ v x y < n) : Sq n (tabF n v) := by
  refine ⟨tabF_len _ _, fun x hx => ?_⟩
  have e := tabF_get n v x hx
  refine ⟨by rw [e]; simp, fun y hy => ?_⟩
  have := h x y hx hy
  rw [tabF_tv hx hy]
  refine ⟨by omega, ?_⟩
  rw [e]
  simp [List.getD_eq_getElem?_getD, hy]
  omega
theorem sq_ext {n : Nat} {t s : List (List Int)} (h : Sq n t) (k : Sq n s) (e : ∀ x y, x < n → y < n → tv t x y = tv s x y) : t = s := by
  rw [← sq_tabF h, ← sq_tabF k]
  refine tabQ_congr fun x y hx hy => ?_
  rw [h.val hx hy, k.val hx hy, e x y hx hy]
theorem isP_of {n : Nat} {p : List Int} (h : IsP n p) : ∃ f g, IsPf n p f g := h
theorem backF_pf {n : Nat} {p : List Int} {f g : Nat → Nat} (h : IsPf n p f g) : IsPf n (backF p) g f := by
  have hb := backK_get n p f g h n (Nat.le_refl _)
  obtain ⟨hl, h1, h2⟩ := h
  refine ⟨by rw [backF_len]; exact hl, fun i hi => ⟨(h1 i hi).2.1, (h1 i hi).1, (h1 i hi).2.2.2, (h1 i hi).2.2.1⟩, fun i hi => ?_⟩
  unfold backF; rw [hl, hb i hi, if_pos (h1 i hi).2.1]
theorem thL_pf {n : Nat} {p q : List Int} {f g f' g' : Nat → Nat} (h : IsPf n p f g) (k : IsPf n q f' g') : IsPf n (thL p q) (fun i => f' (f i)) (fun i => g (g' i)) := by
  obtain ⟨hl, h1, h2⟩ := h
  obtain ⟨hl', h1', h2'⟩ := k
  refine ⟨by rw [thL_len]; exact hl, fun i hi => ?_, fun i hi => ?_⟩
  · have a1 := h1 i hi
    have a2 := h1' i hi
    have a3 := h1' (f i) a1.1
    have a4 := h1 (g' i) a2.2.1
    refine ⟨a3.1, a4.2.1, ?_, ?_⟩
    · show f' (f (g (g' i))) = i
      rw [a4.2.2.1, a2.2.2.1]
    · show g (g' (f' (f i))) = i
      rw [a3.2.2.2, a1.2.2.2]
  · unfold thL
    have : (p.map fun x => q.getD x.toNat 0).getD i 0 = q.getD (p.getD i 0).toNat 0 := by
      simp only [List.getD_eq_getElem?_getD, List.getElem?_map]
      rw [List.getElem?_eq_getElem (by omega)]; rfl
    rw [this, h2 i hi, Int.toNat_natCast, h2' _ (h1 i hi).1]
theorem unit_pf (n : Nat) : IsPf n (unitL n) id id := ⟨unitL_len n, fun i h => ⟨h, h, rfl, rfl⟩, fun i h => unitL_get n i h⟩
theorem pf_ext {n : Nat} {p q : List Int} {f g f' g' : Nat → Nat} (h : IsPf n p f g) (k : IsPf n q f' g') (e : ∀ i, i < n → f i = f' i) : p = q := by
  apply List.ext_getElem
  · rw [h.1, k.1]
  · intro i h1 h2
    rw [h.1] at h1
    have a := h.2.2 i h1
    have b := k.2.2 i h1
    rw [getD_at (by rw [h.1]; exact h1)] at a
    rw [getD_at (by rw [k.1]; exact h1)] at b
    rw [a, b, e i h1]

/-- what renaming does to the values -/
theorem rn_tv {n : Nat} {t : List (List Int)} {p : List Int} {f g : Nat → Nat} (hp : IsPf n p f g) (hs : Sq n t) {x y : Nat} (hx : x < n) (hy : y < n) : rnV t p x y = ((f (tv t (g x) (g y)) : Nat) : Int) := by
  have hb := (backF_pf hp).2.2
  unfold rnV
  rw [hb x hx, hb y hy, Int.toNat_natCast, Int.toNat_natCast]
  exact hp.2.2 _ (hs.lt (hp.2.1 x hx).2.1 (hp.2.1 y hy).2.1)
theorem rnL_tv {n : Nat} {t : List (List Int)} {p : List Int} {f g : Nat → Nat} (hp : IsPf n p f g) (hs : Sq n t) {x y : Nat} (hx : x < n) (hy : y < n) : tv (rnL n t p) x y = f (tv t (g x) (g y)) := by
  unfold rnL; rw [tabF_tv hx hy, rn_tv hp hs hx hy, Int.toNat_natCast]
theorem rnL_sq {n : Nat} {t : List (List Int)} {p : List Int} (hp : IsP n p) (hs : Sq n t) : Sq n (rnL n t p) := by
  obtain ⟨f, g, hp⟩ := isP_of hp
  refine tabF_sqI fun x y hx hy => ?_
  rw [rn_tv hp hs hx hy]
  have := (hp.2.1 _ (hs.lt (hp.2.1 x hx).2.1 (hp.2.1 y hy).2.1)).1
  omega
end Go.Proofs.Ytmncpnpjhchliaa

namespace Go.Proofs.Ytmncpnpjhchliaa
set_option linter.unusedVariables false
set_option linter.unusedSimpArgs false
set_option maxRecDepth 100000
open Go.RowKit

theorem tabF_succ {n k : Nat} (V : Nat → Nat → Int) (h : k < n) : (tabF n V).take (k + 1) = (tabF n V).take k ++ [(List.range n).map fun y => V k y] := by
  have hl : k < (tabF n V).length := by rw [tabF_len]; exact h
  rw [List.take_succ_eq_append_getElem hl]
  simp [tabF]
/-- what a function that builds a pair map leaves -/
def SolB (w : World) (n : Nat) (e : Ending) (w' : World) : Prop :=
  ∃ (a : Option Addr) (c : Nat) (vs : List SV) (f : List (List Int)) (a' : Option Addr) (c' : Nat) (vs' : List SV) (g : List (List Int)), e = .returned (sAgg a n c a' n c') ∧ OwnS w' w.heap.size a n c vs f a' n c' vs' g ∧ Sq n f ∧ Sq n g ∧ Below w.heap.size w w'

end Go.Proofs.Ytmncpnpjhchliaa

namespace Go.Proofs.Ytmncpnpjhchliaa
set_option maxRecDepth 100000
set_option linter.unusedVariables false
set_option linter.unusedSimpArgs false
open Go.RowKit

/-- two rows of the first ones do not contradict a rack -/
def chkP (rows : List (List Int)) (x y : Nat) : Bool :=
  (fun z : Nat => decide (rows.length ≤ z) || decide (thL (rows.getD x []) (rows.getD z []) = thL (rows.getD y []) (rows.getD x []))) ((rows.getD x []).getD y 0).toNat
def chkX (rows : List (List Int)) (x : Nat) : Bool := (List.range rows.length).all fun y => chkP rows x y
def chkR (rows : List (List Int)) : Bool := (List.range rows.length).all fun x => chkX rows x
theorem chkX_of {rows : List (List Int)} {x : Nat} (h : ∀ y, y < rows.length → chkP rows x y = true) : chkX rows x = true := List.all_eq_true.2 fun y hy => h y (List.mem_range.1 hy)
theorem chkX_no {rows : List (List Int)} {x y : Nat} (hy : y < rows.length) (h : chkP rows x y = false) : chkX rows x = false := by
  cases e : chkX rows x with
  | false => rfl
  | true => have := List.all_eq_true.1 e y (List.mem_range.2 hy); rw [h] at this; cases this
theorem chkR_of {rows : List (List Int)} (h : ∀ x, x < rows.length → chkX rows x = true) : chkR rows = true := List.all_eq_true.2 fun x hx => h x (List.mem_range.1 hx)
theorem chkR_no {rows : List (List Int)} {x : Nat} (hx : x < rows.length) (h : chkX rows x = false) : chkR rows = false := by
  cases e : chkR rows with
  | false => rfl
  | true => have := List.all_eq_true.1 e x (List.mem_range.2 hx); rw [h] at this; cases this

end Go.Proofs.Ytmncpnpjhchliaa

namespace Go.Proofs.Ytmncpnpjhchliaa
set_option maxRecDepth 100000
set_option linter.unusedVariables false
set_option linter.unusedSimpArgs false
open Go.RowKit

def cyV (rows : List (List Int)) (u z : Nat) : Int := (rows.getD u []).getD z 0
/-- the rows of x and of y do not contradict a cycle set -/
def cyE (n : Nat) (rows : List (List Int)) (x y u v : Nat) : Bool := (List.range n).all fun z => decide (cyV rows u (cyV rows x z).toNat = cyV rows v (cyV rows y z).toNat)
def cyZ (n : Nat) (rows : List (List Int)) (x y : Nat) : Bool := decide (rows.length ≤ (cyV rows x y).toNat) || (decide (rows.length ≤ (cyV rows y x).toNat) || cyE n rows x y (cyV rows x y).toNat (cyV rows y x).toNat)
def cyS (rows : List (List Int)) (x : Nat) : Bool := (List.range x).all fun x' => !decide (cyV rows x' x' = cyV rows x x)
def cyX (n : Nat) (rows : List (List Int)) (x : Nat) : Bool := cyS rows x && (List.range rows.length).all fun y => cyZ n rows x y
def cycR (n : Nat) (rows : List (List Int)) : Bool := (List.range rows.length).all fun x => cyX n rows x
theorem rng_of {k : Nat} {p : Nat → Bool} (h : ∀ y, y < k → p y = true) : (List.range k).all p = true := List.all_eq_true.2 fun y hy => h y (List.mem_range.1 hy)
theorem rng_no {k : Nat} {p : Nat → Bool} {y : Nat} (hy : y < k) (h : p y = false) : (List.range k).all p = false := by
  cases e : (List.range k).all p with
  | false => rfl
  | true => have := List.all_eq_true.1 e y (List.mem_range.2 hy); rw [h] at this; cases this
theorem step_lt {p : Nat → Prop} {x : Nat} (h : ∀ x', x' < x → p x') (hx : p x) : ∀ x', x' < x + 1 → p x' := fun x' h' => by
  by_cases e : x' = x
  · subst e; exact hx
  · exact h x' (by omega)

end Go.Proofs.Ytmncpnpjhchliaa

namespace Go.Proofs.Ytmncpnpjhchliaa
set_option maxRecDepth 100000
set_option linter.unusedVariables false
set_option linter.unusedSimpArgs false
open Go.RowKit

theorem sprR_none {x : Nat} {s : List (List Int) × Bool} {k : Nat} (h : sprR x k s = none) : ∀ m, k ≤ m → sprR x m s = none := by
  intro m hm
  induction m with
  | zero => obtain rfl : k = 0 := by omega
            exact h
  | succ m ih =>
    by_cases e : k = m + 1
    · subst e; exact h
    · have := ih (by omega)
      unfold sprR; rw [this]; rfl
theorem sprA_none {n : Nat} {s : List (List Int) × Bool} {k : Nat} (h : sprA n k s = none) : ∀ m, k ≤ m → sprA n m s = none := by
  intro m hm
  induction m with
  | zero => obtain rfl : k = 0 := by omega
            exact h
  | succ m ih =>
    by_cases e : k = m + 1
    · subst e; exact h
    · have := ih (by omega)
      unfold sprA; rw [this]; rfl
theorem sprR_succ {x k : Nat} {s t : List (List Int) × Bool} (h : sprR x k s = some t) : sprR x (k + 1) s = (sprT t.1 x k).map fun u => (u.1, t.2 || u.2) := by
  show (sprR x k s).bind _ = _
  rw [h]; rfl
theorem sprA_succ {n k : Nat} {s t : List (List Int) × Bool} (h : sprA n k s = some t) : sprA n (k + 1) s = sprR k n t := by
  show (sprA n k s).bind _ = _
  rw [h]; rfl
/-- what l19Spread hands back -/
def SprP (w : World) (n : Nat) (r : Option (List (List Int))) (e : Ending) (w' : World) : Prop :=
  (∃ o a c vs, r = some o ∧ e = .returned (.tuple #[.slice a n c, .bool true]) ∧ OwnT w' w.heap.size a n c vs o ∧ Below w.heap.size w w') ∨ (r = none ∧ e = .returned (.tuple #[.slice none 0 0, .bool false]) ∧ Below w.heap.size w w')

end Go.Proofs.Ytmncpnpjhchliaa

namespace Go.Proofs.Ytmncpnpjhchliaa
set_option maxRecDepth 100000
set_option linter.unusedVariables false
set_option linter.unusedSimpArgs false
open Go.RowKit

def hfP (n : Nat) (rows : List (List Int)) (x y : Nat) : Bool :=
  decide (rows.getD x [] = []) || (decide (rows.getD y [] = []) || (decide (rows.getD (cyV rows x y).toNat [] = []) || (decide (rows.getD (cyV rows y x).toNat [] = []) || cyE n rows x y (cyV rows x y).toNat (cyV rows y x).toNat)))
def hfX (n : Nat) (rows : List (List Int)) (x : Nat) : Bool := (List.range x).all fun y => hfP n rows x y
def hfL (n : Nat) (rows : List (List Int)) : Bool := (List.range n).all fun x => hfX n rows x
theorem RwsOk.at {n : Nat} {rows : List (List Int)} (h : RwsOk n rows) {x nx : Nat} (hx : x < n) {w : World} {a : Option Addr} (hr : Row w a nx (rows.getD x [])) : (nx = 0 ∧ rows.getD x [] = []) ∨ (nx = n ∧ IsP n (rows.getD x [])) := by
  rcases h.2 x hx with e | e
  · exact .inl ⟨by have := hr.len; rw [e] at this; simpa using this, e⟩
  · exact .inr ⟨by have := hr.len; rw [e.len] at this; exact this, e⟩

end Go.Proofs.Ytmncpnpjhchliaa

namespace Go.Proofs.Ytmncpnpjhchliaa
set_option linter.unusedVariables false
set_option linter.unusedSimpArgs false

/-- each of the numbers less than the length is in the list -/
def permOk (p : List Int) : Bool := allN p.length fun x : Nat => p.contains (x : Int)
/-- the first k numbers are less than the length, and all different -/
def permTo (p : List Int) (k : Nat) : Prop := (∀ i, i < k → 0 ≤ p.getD i 0 ∧ p.getD i 0 < p.length) ∧ ∀ i j, i < k → j < k → p.getD i 0 = p.getD j 0 → i = j
theorem getD_mem {p : List Int} {i : Nat} (h : i < p.length) : p.getD i 0 ∈ p := by
  rw [List.getD_eq_getElem?_getD, List.getElem?_eq_getElem h]; exact List.getElem_mem h
theorem permTo_ok {p : List Int} (h : permTo p p.length) : permOk p = true := by
  unfold permOk allN
  rw [List.all_eq_true]
  intro x hx
  have hx := List.mem_range.1 hx
  obtain ⟨i, hi, e⟩ := inj_surj p.length (fun i => (p.getD i 0).toNat) (fun i hi => by have := h.1 i hi; show (p.getD i 0).toNat < _; omega)
    (fun i j hi hj e => h.2 i j hi hj (by have a := h.1 i hi; have b := h.1 j hj; have e : (p.getD i 0).toNat = (p.getD j 0).toNat := e; omega)) x hx
  have a := h.1 i hi
  have e : (p.getD i 0).toNat = x := e
  have e2 : p.getD i 0 = (x : Int) := by omega
  rw [List.contains_iff_mem, ← e2]
  exact getD_mem hi
theorem permOk_to {p : List Int} (h : permOk p = true) : permTo p p.length := by
  have hm : ∀ x, x < p.length → ∃ i, i < p.length ∧ p.getD i 0 = (x : Int) := by
    intro x hx
    have := allN_get h hx
    rw [List.contains_iff_mem] at this
    obtain ⟨i, hi, e⟩ := List.getElem_of_mem this
    exact ⟨i, hi, by rw [List.getD_eq_getElem?_getD, List.getElem?_eq_getElem hi]; simpa using e⟩
  have H : ∀ x, ∃ i, x < p.length → i < p.length ∧ p.getD i 0 = (x : Int) := by
    intro x
    by_cases hx : x < p.length
    · obtain ⟨i, hi⟩ := hm x hx; exact ⟨i, fun _ => hi⟩
    · exact ⟨0, fun h => absurd h hx⟩
  obtain ⟨g, hg⟩ := Classical.axiomOfChoice H
  have hs := inj_surj p.length g (fun x hx => (hg x hx).1) (fun x y hx hy e => by have a := (hg x hx).2; have b := (hg y hy).2; rw [e] at a; omega)
  have hv : ∀ i, i < p.length → ∃ x, x < p.length ∧ g x = i ∧ p.getD i 0 = (x : Int) := by
    intro i hi
    obtain ⟨x, hx, e⟩ := hs i hi
    have := (hg x hx).2
    rw [e] at this
    exact ⟨x, hx, e, this⟩
  refine ⟨fun i hi => ?_, fun i j hi hj e => ?_⟩
  · obtain ⟨x, hx, _, e⟩ := hv i hi; omega
  · obtain ⟨x, hx, e1, e2⟩ := hv i hi
    obtain ⟨y, hy, e3, e4⟩ := hv j hj
    have : x = y := by omega
    subst this; omega
theorem permOk_out {p : List Int} {k : Nat} (hk : k < p.length) (h : ¬ (0 ≤ p.getD k 0 ∧ p.getD k 0 < p.length)) : permOk p = false := by
  cases hp : permOk p with
  | false => rfl
  | true => exact absurd ((permOk_to hp).1 k hk) h
theorem permOk_twice {p : List Int} {k i : Nat} (hk : k < p.length) (hi : i < k) (h : p.getD i 0 = p.getD k 0) : permOk p = false := by
  cases hp : permOk p with
  | false => rfl
  | true => have := (permOk_to hp).2 i k (by omega) hk h; omega
theorem permTo_succ {p : List Int} {k : Nat} (h : permTo p k) (h1 : 0 ≤ p.getD k 0 ∧ p.getD k 0 < p.length) (h2 : ∀ i, i < k → p.getD i 0 ≠ p.getD k 0) : permTo p (k + 1) := by
  refine ⟨fun i hi => ?_, fun i j hi hj e => ?_⟩
  · by_cases e : i = k
    · subst e; exact h1
    · exact h.1 i (by omega)
  · by_cases e1 : i = k
    · by_cases e2 : j = k
      · omega
      · subst e1; exact absurd e.symm (h2 j (by omega))
    · by_cases e2 : j = k
      · subst e2; exact absurd e (h2 i (by omega))
      · exact h.2 i j (by omega) (by omega) e
/-- what has been seen: the truths at the numbers less than n -/
def seenL (p : List Int) (n k : Nat) : List Bool := (List.range n).map fun x : Nat => (p.take k).contains (x : Int)
theorem seenL_len (p : List Int) (n k : Nat) : (seenL p n k).length = n := by simp [seenL]
theorem seenL_zero (p : List Int) (n : Nat) : seenL p n 0 = List.replicate n false := by
  apply List.ext_getElem
  · simp [seenL]
  · intro i h1 h2; simp [seenL]
theorem seenL_get (p : List Int) (n k x : Nat) (hx : x < n) : (seenL p n k).getD x false = (p.take k).contains (x : Int) := by
  simp [seenL, List.getD_eq_getElem?_getD, List.getElem?_map, hx]
theorem seenL_succ (p : List Int) (n k x : Nat) (hk : k < p.length) (hx : x < n) (h : p[k] = (x : Int)) : (seenL p n k).set x true = seenL p n (k + 1) := by
  apply List.ext_getElem
  · simp [seenL]
  · intro i h1 h2
    have hi : i < n := by simpa [seenL] using h2
    rw [List.getElem_set]
    simp only [seenL, List.getElem_map, List.getElem_range]
    rw [List.take_succ_eq_append_getElem hk]
    by_cases e : x = i
    · subst e; simp [h]
    · rw [if_neg e]
      have : ¬ (i : Int) = p[k] := by rw [h]; omega
      rw [Bool.eq_iff_iff, List.contains_iff_mem, List.contains_iff_mem, List.mem_append, List.mem_singleton]
      exact ⟨Or.inl, fun h => h.elim id (fun h => absurd h this)⟩
theorem seen_mem {p : List Int} {k : Nat} {x : Int} (h : (p.take k).contains x = true) (hk : k ≤ p.length) : ∃ i, i < k ∧ p.getD i 0 = x := by
  rw [List.contains_iff_mem] at h
  obtain ⟨i, hi, e⟩ := List.getElem_of_mem h
  rw [List.length_take] at hi
  refine ⟨i, by omega, ?_⟩
  rw [List.getElem_take] at e
  rw [List.getD_eq_getElem?_getD, List.getElem?_eq_getElem (by omega)]
  simpa using e
theorem not_seen {p : List Int} {k : Nat} {x : Int} (h : (p.take k).contains x = false) (hk : k ≤ p.length) : ∀ i, i < k → p.getD i 0 ≠ x := by
  intro i hi e
  have : x ∈ p.take k := by
    rw [List.mem_take_iff_getElem]
    refine ⟨i, by omega, ?_⟩
    rw [List.getD_eq_getElem?_getD, List.getElem?_eq_getElem (by omega)] at e
    simpa using e
  rw [← List.contains_iff_mem, h] at this
  exact Bool.noConfusion this

theorem rngB_t {lo hi x : Int} (h : rngB lo hi x = true) : lo ≤ x ∧ x ≤ hi := by unfold rngB at h; simpa using h
theorem rngB_f {lo hi x : Int} (h : rngB lo hi x = false) : ¬ (lo ≤ x ∧ x ≤ hi) := fun hh => by
  have : rngB lo hi x = true := by unfold rngB; simp [hh.1, hh.2]
  rw [this] at h; exact Bool.noConfusion h
/-! ### racks -/
def rkAt (t : List (List Int)) (x y z : Nat) : Bool := decide (tv t x (tv t y z) = tv t (tv t x y) (tv t x z))
def rkOk (n : Nat) (t : List (List Int)) : Bool := allN n fun x => allN n fun y => allN n fun z => rkAt t x y z
def isRk (t : List (List Int)) : Bool := isTab t && (t.all permOk && rkOk t.length t)

end Go.Proofs.Ytmncpnpjhchliaa

namespace Go.Proofs.Ytmncpnpjhchliaa
set_option maxRecDepth 100000
set_option linter.unusedVariables false
set_option linter.unusedSimpArgs false
open Go.RowKit

/-- no fault and nil, or a fault and a list of three -/
def FltN (ok : Bool) (W : World) (e : Ending) (w' : World) : Prop := ((ok = true ∧ e = .returned (.slice none 0 0)) ∨ (ok = false ∧ ∃ b c, e = .returned (.slice (some ⟨b, 0, none⟩) 3 c))) ∧ Below W.heap.size W w'

theorem isRk_no {t : List (List Int)} (h : isTab t = false) : isRk t = false := by unfold isRk; rw [h]; rfl

end Go.Proofs.Ytmncpnpjhchliaa

namespace Go.Proofs.Ytmncpnpjhchliaa
set_option maxRecDepth 100000
set_option linter.unusedVariables false
set_option linter.unusedSimpArgs false
open Go.RowKit

end Go.Proofs.Ytmncpnpjhchliaa

namespace Go.Proofs.Ytmncpnpjhchliaa
set_option maxRecDepth 100000
set_option linter.unusedVariables false
set_option linter.unusedSimpArgs false
open Go.RowKit

/-- a matrix for n elements and m -/
def isMx (n m : Int) (f : List (List Int)) : Bool := rngB 1 12 m && (decide ((f.length : Int) = n) && f.all (rowOk n m))

end Go.Proofs.Ytmncpnpjhchliaa

namespace Go.Proofs.Ytmncpnpjhchliaa
set_option linter.unusedVariables false
set_option linter.unusedSimpArgs false

/-- a square of n by n numbers of at least 0 and less than m -/
def SqM (n m : Nat) (t : List (List Int)) : Prop := t.length = n ∧ ∀ x, x < n → (t.getD x []).length = n ∧ ∀ y, y < n → tv t x y < m ∧ (t.getD x []).getD y 0 = ((tv t x y : Nat) : Int)
theorem isMx_sq {n : Nat} {m : Int} {t : List (List Int)} (h : isMx n m t = true) : (1 ≤ m ∧ m ≤ 12) ∧ SqM n m.toNat t := by
  unfold isMx at h
  rw [Bool.and_eq_true, Bool.and_eq_true] at h
  obtain ⟨h1, h2, h3⟩ := h
  have hm : 1 ≤ m ∧ m ≤ 12 := by unfold rngB at h1; simpa using h1
  have hl : t.length = n := by have := of_decide_eq_true h2; omega
  refine ⟨hm, hl, fun x hx => ?_⟩
  have hxl : x < t.length := by omega
  have hr := List.all_eq_true.1 h3 t[x] (List.getElem_mem hxl)
  have e : t.getD x [] = t[x] := by simp [List.getD_eq_getElem?_getD, List.getElem?_eq_getElem hxl]
  obtain ⟨h4, h5⟩ := rowOk_get hr
  rw [e]
  refine ⟨by omega, fun y hy => ?_⟩
  have := h5 y (by omega)
  unfold tv
  rw [e]
  omega
/-- the number that a letter adds: l before it, r behind it -/
def wtT (M : List (List Int)) (m : Int) (x : Int) (l r : List Int) : Int :=
  if 0 < x then ((tv M (l.getD (plc x).toNat 0).toNat (l.getD ((plc x).toNat + 1) 0).toNat : Nat) : Int)
  else m - ((tv M (r.getD (plc x).toNat 0).toNat (r.getD ((plc x).toNat + 1) 0).toNat : Nat) : Int)
/-- the sum of the numbers along a word -/
def wtS (n : Nat) (f g M : List (List Int)) (m : Int) : List Int → List Int → Int
  | [], _ => 0
  | x :: xs, l => wtT M m x l (stepL n f g x l) + wtS n f g M m xs (stepL n f g x l)
theorem wtS_append (n : Nat) (f g M : List (List Int)) (m : Int) (xs ys l : List Int) : wtS n f g M m (xs ++ ys) l = wtS n f g M m xs l + wtS n f g M m ys (actL n f g xs l) := by
  induction xs generalizing l with
  | nil => simp [wtS, actL]
  | cons x r ih =>
    simp only [List.cons_append, wtS]
    rw [ih]
    show _ = _ + wtS n f g M m ys (actL n f g r (stepL n f g x l))
    omega
theorem wtS_take (n : Nat) (f g M : List (List Int)) (m : Int) (xs l : List Int) (k : Nat) (h : k < xs.length) :
    wtS n f g M m (xs.take (k + 1)) l = wtS n f g M m (xs.take k) l + wtT M m xs[k] (actL n f g (xs.take k) l) (actL n f g (xs.take (k + 1)) l) := by
  rw [actL_take n f g xs l k h, List.take_succ_eq_append_getElem h, wtS_append]
  simp [wtS]
theorem wtT_bd {n : Nat} {M : List (List Int)} {m : Int} (hM : SqM n m.toNat M) (hm : 1 ≤ m ∧ m ≤ 12) {x : Int} {l r : List Int} (hl : Less n l) (hr : Less n r) (h1 : (plc x).toNat + 1 < l.length) (h2 : (plc x).toNat + 1 < r.length) : 0 ≤ wtT M m x l r ∧ wtT M m x l r ≤ m := by
  unfold wtT
  split
  · obtain ⟨a, ha, ea⟩ := hl _ (show (plc x).toNat < l.length by omega)
    obtain ⟨b, hb, eb⟩ := hl _ h1
    rw [ea, eb]
    have := ((hM.2 a ha).2 b hb).1
    simp only [Int.toNat_natCast]
    omega
  · obtain ⟨a, ha, ea⟩ := hr _ (show (plc x).toNat < r.length by omega)
    obtain ⟨b, hb, eb⟩ := hr _ h2
    rw [ea, eb]
    have := ((hM.2 a ha).2 b hb).1
    simp only [Int.toNat_natCast]
    omega
/-- the weight -/
def wtF (n : Nat) (f g M : List (List Int)) (m : Int) (xs l : List Int) : Int := wtS n f g M m xs l % m
/-- both weights of a triple differ -/
def wtBad (n : Nat) (f g M : List (List Int)) (m : Int) (l : List Int) : Bool := !decide (wtF n f g M m [1, 2, 1] l = wtF n f g M m [2, 1, 2] l)
def wtFlt (n : Nat) (f g M : List (List Int)) (m : Int) : List Int := fltL n (wtBad n f g M m)

end Go.Proofs.Ytmncpnpjhchliaa

namespace Go.Proofs.Ytmncpnpjhchliaa
set_option linter.unusedVariables false
set_option linter.unusedSimpArgs false

/-- the second table of a rack's solution -/
def cstL (n : Nat) : List (List Int) := tabF n fun x _ => (x : Int)
theorem tabF_getD {n : Nat} {v : Nat → Nat → Int} {x y : Nat} (hx : x < n) (hy : y < n) : ((tabF n v).getD x []).getD y 0 = v x y := by
  rw [tabF_get n v x hx]; simp [List.getD_eq_getElem?_getD, List.getElem?_map, hy]
theorem tv_tab2 {n : Nat} {v : Nat → Nat → Int} {x y : Nat} (hx : x < n) (hy : y < n) : tv (tabF n v) x y = (v x y).toNat := by
  unfold tv; rw [tabF_getD hx hy]
theorem tabF_sq {n : Nat} {v : Nat → Nat → Int} (h : ∀ x y, x < n → y < n → 0 ≤ v x y ∧ v x y < n) : Sq n (tabF n v) := by
  refine ⟨tabF_len n v, fun x hx => ⟨?_, fun y hy => ?_⟩⟩
  · rw [tabF_get n v x hx]; simp
  · have := h x y hx hy
    rw [tv_tab2 hx hy, tabF_getD hx hy]
    omega
theorem Sq.eq_tabF {n : Nat} {t : List (List Int)} (h : Sq n t) : tabF n (fun x y => ((tv t x y : Nat) : Int)) = t := by
  apply List.ext_getElem
  · rw [tabF_len, h.len]
  · intro x h1 h2
    have hx : x < n := by rw [tabF_len] at h1; exact h1
    have e1 := tabF_get n (fun x y => ((tv t x y : Nat) : Int)) x hx
    rw [List.getD_eq_getElem?_getD, List.getElem?_eq_getElem h1] at e1
    simp only [Option.getD_some] at e1
    rw [e1]
    have hl := h.row hx
    have e2 : t.getD x [] = t[x] := by simp [List.getD_eq_getElem?_getD, List.getElem?_eq_getElem h2]
    rw [e2] at hl
    apply List.ext_getElem
    · simp [hl]
    · intro y g1 g2
      have hy : y < n := by simpa using g1
      have := h.val hx hy
      rw [e2, List.getD_eq_getElem?_getD, List.getElem?_eq_getElem g2] at this
      simp only [Option.getD_some] at this
      simp [this]
theorem sq_isTab {n : Nat} {t : List (List Int)} (h : Sq n t) (h1 : 1 ≤ n) (h2 : n ≤ 12) : isTab t = true := by
  unfold isTab
  rw [h.len, Bool.and_eq_true]
  refine ⟨by unfold rngB; simp; omega, ?_⟩
  rw [List.all_eq_true]
  intro r hr
  obtain ⟨x, hx, rfl⟩ := List.getElem_of_mem hr
  have hxn : x < n := by rw [h.len] at hx; exact hx
  have e2 : t.getD x [] = t[x] := by simp [List.getD_eq_getElem?_getD, List.getElem?_eq_getElem hx]
  have hl := h.row hxn
  rw [e2] at hl
  unfold rowOk
  rw [Bool.and_eq_true]
  refine ⟨by simp [hl], ?_⟩
  rw [List.all_eq_true]
  intro z hz
  obtain ⟨y, hy, rfl⟩ := List.getElem_of_mem hz
  have hv := h.val hxn (show y < n by omega)
  have hlt := h.lt hxn (show y < n by omega)
  rw [e2, List.getD_eq_getElem?_getD, List.getElem?_eq_getElem hy] at hv
  simp only [Option.getD_some] at hv
  rw [hv]
  unfold rngB
  simp
  omega
theorem allN_mk {n : Nat} {P : Nat → Bool} (h : ∀ k, k < n → P k = true) : allN n P = true := by
  unfold allN; rw [List.all_eq_true]; intro k hk; exact h k (List.mem_range.1 hk)
theorem cst_sq (n : Nat) : Sq n (cstL n) := tabF_sq fun x y hx hy => by omega
theorem tv_cst {n x y : Nat} (hx : x < n) (hy : y < n) : tv (cstL n) x y = x := by unfold cstL; rw [tv_tab2 hx hy]; simp
/-- a row that is a permutation does not lead two elements to one -/
theorem perm_inj {n : Nat} {t : List (List Int)} (h : Sq n t) (hp : t.all permOk = true) {x y z : Nat} (hx : x < n) (hy : y < n) (hz : z < n) (e : tv t x y = tv t x z) : y = z := by
  have hxl : x < t.length := by rw [h.len]; exact hx
  have hm := List.all_eq_true.1 hp t[x] (List.getElem_mem hxl)
  have e2 : t.getD x [] = t[x] := by simp [List.getD_eq_getElem?_getD, List.getElem?_eq_getElem hxl]
  have hl := h.row hx
  rw [e2] at hl
  have := (permOk_to hm).2 y z (by omega) (by omega)
  have v1 := h.val hx hy
  have v2 := h.val hx hz
  rw [e2] at v1 v2
  exact this (by rw [v1, v2, e])
theorem isRk_parts {t : List (List Int)} (h : isRk t = true) : isTab t = true ∧ t.all permOk = true ∧ rkOk t.length t = true := by
  unfold isRk at h
  rw [Bool.and_eq_true, Bool.and_eq_true] at h
  exact ⟨h.1, h.2.1, h.2.2⟩
theorem rk_isSol {t : List (List Int)} (h : isRk t = true) : isSol t (cstL t.length) = true := by
  obtain ⟨h1, h2, h3⟩ := isRk_parts h
  obtain ⟨n1, n2, sq⟩ := isTab_sq h1
  have hc := cst_sq t.length
  unfold isSol isPm
  rw [Bool.and_eq_true, Bool.and_eq_true, Bool.and_eq_true, Bool.and_eq_true]
  generalize hn : t.length = n at *
  refine ⟨⟨h1, sq_isTab hc n1 n2, by simp [hc.len]⟩, ?_, ?_⟩
  · unfold collOk
    refine allN_mk fun p hp => allN_mk fun q hq => ?_
    have a1 : p / n < n := Nat.div_lt_of_lt_mul hp
    have a2 : q / n < n := Nat.div_lt_of_lt_mul hq
    have b1 : p % n < n := Nat.mod_lt _ (by omega)
    have b2 : q % n < n := Nat.mod_lt _ (by omega)
    unfold collAt
    rw [tv_cst a1 b1, tv_cst a2 b2]
    by_cases e : p = q
    · simp [e]
    · simp only [e, decide_false, Bool.not_false, Bool.true_and, Bool.not_eq_true', Bool.and_eq_false_iff, decide_eq_false_iff_not]
      rw [← Classical.not_and_iff_not_or_not]
      rintro ⟨e1, e2⟩
      rw [← e2] at e1
      have := perm_inj sq h2 a1 b1 b2 e1
      apply e
      rw [← Nat.div_add_mod p n, ← Nat.div_add_mod q n, e2, this]
  · unfold eqOk
    refine allN_mk fun x hx => allN_mk fun y hy => allN_mk fun z hz => ?_
    have hr := allN_get (allN_get (allN_get h3 hx) hy) hz
    unfold rkAt at hr
    have hr := of_decide_eq_true hr
    have c1 := sq.lt hx hy
    have c2 := sq.lt hx hz
    have c3 := sq.lt hy hz
    unfold eqAt
    simp only [tv_cst hx hy, tv_cst hx hz, tv_cst hy hz, tv_cst c1 c2, tv_cst hx c3]
    simp [hr]
/-- each element leads itself to itself -/
def qndOk (n : Nat) (t : List (List Int)) : Bool := allN n fun x => decide (tv t x x = x)
/-- the kink -/
def knkL (n : Nat) (t : List (List Int)) : List Int := (List.range n).map fun x => ((tv t x x : Nat) : Int)
/-- strictly increasing -/
def incOk (L : List Int) : Bool := allN (L.length - 1) fun i => decide (L.getD i 0 < L.getD (i + 1) 0)
theorem knk_getD {n x : Nat} {t : List (List Int)} (h : x < n) : (knkL n t).getD x 0 = ((tv t x x : Nat) : Int) := by
  simp [knkL, List.getD_eq_getElem?_getD, List.getElem?_map, h]
theorem knk_len (n : Nat) (t : List (List Int)) : (knkL n t).length = n := by simp [knkL]
/-- numbers less than n that increase are the identity -/
theorem inc_id {n : Nat} {L : List Int} (hl : L.length = n) (hb : ∀ i, i < n → 0 ≤ L.getD i 0 ∧ L.getD i 0 < n) : incOk L = true ↔ ∀ i, i < n → L.getD i 0 = i := by
  constructor
  · intro h
    have step : ∀ i, i + 1 < n → L.getD i 0 < L.getD (i + 1) 0 := fun i hi => by
      have := allN_get h (k := i) (by omega)
      exact of_decide_eq_true this
    have lo : ∀ i, i < n → (i : Int) ≤ L.getD i 0 := by
      intro i
      induction i with
      | zero => intro hi; have := hb 0 hi; omega
      | succ i ih => intro hi; have := ih (by omega); have := step i hi; omega
    have hi' : ∀ k i, i + k + 1 = n → L.getD i 0 ≤ i := by
      intro k
      induction k with
      | zero => intro i hi; have := hb i (by omega); omega
      | succ k ih => intro i hi; have := ih (i + 1) (by omega); have := step i (by omega); omega
    intro i hi
    have := lo i hi
    have := hi' (n - i - 1) i (by omega)
    omega
  · intro h
    refine allN_mk fun i hi => ?_
    rw [h i (by omega), h (i + 1) (by omega)]
    simp
    omega
theorem inc_knk {n : Nat} {t : List (List Int)} (h : Sq n t) : incOk (knkL n t) = qndOk n t := by
  rw [Bool.eq_iff_iff, inc_id (knk_len n t) (fun i hi => by rw [knk_getD hi]; have := h.lt hi hi; omega)]
  constructor
  · intro g
    refine allN_mk fun x hx => ?_
    have := g x hx
    rw [knk_getD hx] at this
    simp
    omega
  · intro g i hi
    have := of_decide_eq_true (allN_get g hi)
    rw [knk_getD hi, this]
/-- no number but 0 on the diagonal -/
def diaOk (n : Nat) (M : List (List Int)) : Bool := allN n fun x => decide (tv M x x = 0)
/-- a quandle and a quandle weight of it -/
def qwOk (t : List (List Int)) (m : Int) (M : List (List Int)) : Bool := diaOk t.length M && (qndOk t.length t && decide (wtFlt t.length t (cstL t.length) M m = []))
/-- what IsQuandleWeight hands back -/
def iqF (t : List (List Int)) (m : Int) (M : List (List Int)) : Bool × Int := if isRk t then (if isMx t.length m M then (qwOk t m M, 0) else (false, 2)) else (false, 1)
section
variable {t M : List (List Int)} {m : Int}
theorem iqF_0 (h : isRk t = false) : iqF t m M = (false, 1) := by unfold iqF; rw [h]; rfl
theorem iqF_1 (h : isRk t = true) (h1 : isMx t.length m M = false) : iqF t m M = (false, 2) := by unfold iqF; rw [h, h1]; rfl
theorem iqF_2 (h : isRk t = true) (h1 : isMx t.length m M = true) : iqF t m M = (qwOk t m M, 0) := by unfold iqF; rw [h, h1]; rfl
end
end Go.Proofs.Ytmncpnpjhchliaa

namespace Go.Proofs.Ytmncpnpjhchliaa
set_option maxRecDepth 100000
set_option linter.unusedVariables false
set_option linter.unusedSimpArgs false
open Go.RowKit

/-- all rows are permutations -/
def RwsP (n : Nat) (t : List (List Int)) : Prop := t.length = n ∧ ∀ i, i < n → IsP n (t.getD i [])
theorem RwsP.sq {n : Nat} {t : List (List Int)} (h : RwsP n t) : Sq n t := by
  refine ⟨h.1, fun x hx => ⟨(h.2 x hx).len, fun y hy => ?_⟩⟩
  obtain ⟨z, hz, hzn⟩ := (h.2 x hx).at hy
  have : tv t x y = z := by unfold tv; rw [hz, Int.toNat_natCast]
  rw [this]; exact ⟨hzn, hz⟩
def sqrL (n : Nat) (t : List (List Int)) : List Int := (List.range n).map fun x : Nat => cyV t x x
theorem sqrL_len (n : Nat) (t : List (List Int)) : (sqrL n t).length = n := by simp [sqrL]
theorem sqrL_succ (n : Nat) (t : List (List Int)) : sqrL (n + 1) t = sqrL n t ++ [cyV t n n] := by simp [sqrL, List.range_succ]
def cyfP (t : List (List Int)) (x y z : Nat) : Bool := decide (cyV t (cyV t x y).toNat (cyV t x z).toNat = cyV t (cyV t y x).toNat (cyV t y z).toNat)
def cyfY (n : Nat) (t : List (List Int)) (x y : Nat) : Bool := (List.range n).all fun z => cyfP t x y z
def cyfX (n : Nat) (t : List (List Int)) (x : Nat) : Bool := (List.range n).all fun y => cyfY n t x y
def cyfOk (n : Nat) (t : List (List Int)) : Bool := (List.range n).all fun x => cyfX n t x
def isCyc (n : Nat) (t : List (List Int)) : Bool := permOk (sqrL n t) && cyfOk n t
theorem isP_perm {n : Nat} {p : List Int} (h : IsP n p) : permOk p = true := by
  obtain ⟨f, g, hl, h1, h2⟩ := h
  unfold permOk allN
  rw [List.all_eq_true]
  intro x hx
  have hx := List.mem_range.1 hx
  rw [hl] at hx
  have h3 := h1 x hx
  have h4 := h2 (g x) h3.2.1
  rw [h3.2.2.1] at h4
  rw [List.contains_iff_mem, ← h4]
  exact getD_mem (by omega)

end Go.Proofs.Ytmncpnpjhchliaa

namespace Go.Proofs.Ytmncpnpjhchliaa
set_option linter.unusedVariables false
set_option linter.unusedSimpArgs false
set_option maxRecDepth 100000
open Go.RowKit

/-- making n numbers, as an equation -/
theorem make_eq (n : Nat) (hn : n ≤ 1000000000000) : ∃ mk : World → World, ∀ v : World, (Instr.makeSlice 37 (.int .i64 n) (.int .i64 n)).run Try.prog v = .ok (.slice (some ⟨v.heap.size, 0, none⟩) n n) (mk v) ∧ Own (mk v) v.heap.size (some ⟨v.heap.size, 0, none⟩) n n (List.replicate n 0) ∧ Below v.heap.size v (mk v) ∧ v.heap.size < (mk v).heap.size := by
  have H : ∀ v : World, ∃ w' : World, (Instr.makeSlice 37 (.int .i64 n) (.int .i64 n)).run Try.prog v = .ok (.slice (some ⟨v.heap.size, 0, none⟩) n n) w' ∧ Own w' v.heap.size (some ⟨v.heap.size, 0, none⟩) n n (List.replicate n 0) ∧ Below v.heap.size v w' ∧ v.heap.size < w'.heap.size := fun v => by
    obtain ⟨i0, hi, hz0, hz1, hz2⟩ := info_parts info_int
    obtain ⟨w', hrun, r1, r2⟩ := run_make_full (P := Try.prog) v v.heap.size 37 2 i0 (.int .i64 0) 1 und_ints hi hz0 hz1 .i64 .i64 n (by rw [hz2]; omega) (by unfold maxLen; omega) (Nat.le_refl _)
    have ho : Own w' v.heap.size (some ⟨v.heap.size, 0, none⟩) n n (List.replicate n 0) := by
      refine ⟨by simp, ?_⟩
      have e : (madeCells (Value.int IntKind.i64 0).cells (n * 1)).toList = (List.replicate n (0 : Int)).map (.int .i64) := by
        rw [Nat.mul_one, List.map_replicate]; exact toList_madeCells_one _ _
      rw [e] at r1; exact r1
    exact ⟨w', hrun, ho, (Below.refl _ _).grown r2 (Nat.le_refl _) (by simp), ho.lt.2⟩
  obtain ⟨mk, h⟩ := Classical.axiomOfChoice H
  exact ⟨mk, h⟩
def zT (n : Nat) : List (List Int) := tabF n fun _ _ => 0
theorem zT_succ {n k : Nat} (h : k < n) : (zT n).take (k + 1) = (zT n).take k ++ [List.replicate n 0] := by
  unfold zT
  rw [tabF_succ _ h]
  congr 2
  apply List.ext_getElem
  · simp
  · intro i h1 h2; simp
end Go.Proofs.Ytmncpnpjhchliaa

namespace Go.Proofs.Ytmncpnpjhchliaa
set_option linter.unusedVariables false
set_option linter.unusedSimpArgs false
set_option maxRecDepth 100000
open Go.RowKit

/-- all numbers of a square are in range -/
def InR (n : Nat) (V : Nat → Nat → Int) : Prop := ∀ x y, x < n → y < n → 0 ≤ V x y ∧ V x y < n
theorem InR.upd {n : Nat} {V : Nat → Nat → Int} (h : InR n V) (u v : Nat) {z : Nat} (hz : z < n) : InR n (updQ V u v z) := fun x y hx hy => by
  unfold updQ
  split
  · omega
  · exact h x y hx hy
end Go.Proofs.Ytmncpnpjhchliaa

namespace Go.Proofs.Ytmncpnpjhchliaa
set_option linter.unusedVariables false
set_option linter.unusedSimpArgs false
set_option maxRecDepth 100000
open Go.RowKit

/-- where a number lies in a permutation -/
def idxP (p : List Int) (x : Int) : Nat := p.findIdx fun y => decide (y = x)
theorem idxP_of {p : List Int} {x : Int} {k : Nat} (hk : k < p.length) (h : p.getD k 0 = x) (h2 : ∀ j, j < k → p.getD j 0 ≠ x) : idxP p x = k := by
  unfold idxP
  rw [List.findIdx_eq hk]
  rw [List.getD_eq_getElem?_getD, List.getElem?_eq_getElem hk] at h
  refine ⟨by simpa using h, fun j hj => ?_⟩
  have := h2 j hj
  rw [List.getD_eq_getElem?_getD, List.getElem?_eq_getElem (by omega)] at this
  simpa using this
set_option maxHeartbeats 2000000 in
theorem l01Index_perm (n x : Nat) (a : Option Addr) (c : Nat) (p : List Int) (w : World) (h : Row w a n p) (hp : IsP n p) (hx : x < n) (hn : n ≤ 1000) :
    Calls Try.prog 40 #[.slice a n c, .int .i64 x] w fun e w' => e = .returned (.int .i64 (idxP p x)) ∧ idxP p x < n ∧ w' = w := by
  have HL := Lib.hid h.len
  obtain ⟨k0, hk0, hk1⟩ : ∃ k, k < n ∧ p.getD k 0 = (x : Int) := by
    obtain ⟨f, g, _, h1, h2⟩ := hp
    exact ⟨g x, (h1 x hx).2.1, by rw [h2 _ (h1 x hx).2.1, (h1 x hx).2.2.1]⟩
  have HK := Lib.hid (And.intro hk0 hk1)
  clear hk0 hk1 hp
  go_enter Try.func40, Try.ntmps40
  go_wp2
  go_loop [5] (fun i => ∃ k : Nat, k ≤ n ∧ i = .int .i64 k ∧ Hid (∀ j, j < k → p.getD j 0 ≠ (x : Int))) (fun i => n - (intOf i).toNat)
  case atStart => exact ⟨0, Nat.zero_le _, rfl, Lib.hid fun j hj => absurd hj (by omega)⟩
  case round =>
    obtain ⟨k, hk, rfl, HN⟩ := hrel
    by_cases hlt : k < n
    · obtain ⟨b, o, rfl, g⟩ := h.at k hlt
      obtain ⟨v, HV⟩ : ∃ v, Hid (p.getD k 0 = v) := ⟨_, Lib.hid rfl⟩
      rw [HV.out] at g
      have i1 : (0 : Int) ≤ (k : Int) := by omega
      have i2 : (k : Int) < (n : Int) := by omega
      by_cases hv : v = (x : Int)
      · have HI : Hid (idxP p x = k) := Lib.hid (idxP_of (by have := HL.out; omega) (by rw [HV.out, hv]) HN.out)
        have hb : (v == (x : Int)) = true := by simpa using hv
        subst hv
        go_wp2
        go_ret
        exact ⟨by rw [HI.out]; rfl, by rw [HI.out]; exact hlt, rfl⟩
      · have hb : (v == (x : Int)) = false := by simpa using hv
        go_wp2
        go_round
        case rel => exact ⟨k + 1, by omega, by go_num, Lib.hid fun j hj => by
          by_cases e : j = k
          · rw [e, HV.out]; exact hv
          · exact HN.out j (by omega)⟩
        case measure => simp [intOf]; omega
    · exact absurd HK.out.2 (HN.out k0 (by have := HK.out.1; omega))

end Go.Proofs.Ytmncpnpjhchliaa

namespace Go.Proofs.Ytmncpnpjhchliaa
set_option maxRecDepth 100000
set_option linter.unusedVariables false
set_option linter.unusedSimpArgs false
open Go.RowKit

theorem zrow9 {N k : Nat} (h : k < N) : (tabF N fun _ _ => 0).take (k + 1) = (tabF N fun _ _ => 0).take k ++ [List.replicate N 0] := by
  have hl : k < (tabF N fun _ _ => 0).length := by rw [tabF_len]; exact h
  rw [List.take_succ_eq_append_getElem hl]
  congr 2
  simp only [tabF, List.getElem_map]
  apply List.ext_getElem
  · simp
  · intro i h1 h2; simp
def facN : Nat → Nat
  | 0 => 1
  | n + 1 => (n + 1) * facN n
theorem facN_bd : ∀ k : Fin 5, facN k.1 ≤ 24 := by decide
end Go.Proofs.Ytmncpnpjhchliaa
