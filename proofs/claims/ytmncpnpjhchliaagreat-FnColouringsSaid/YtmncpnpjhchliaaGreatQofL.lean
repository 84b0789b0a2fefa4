/-
  The quandle of a rack is a quandle; in plain lists. The colourings of the law of colourings.
  No condition.
-/
import Derived.Test.YtmncpnpjhchliaaGreatGuiC
import Derived.Test.YtmncpnpjhchliaaGreatColP
import Derived.Test.YtmncpnpjhchliaaGreatBase5
import Derived.Test.YtmncpnpjhchliaaGreatBase3
namespace Go.Proofs.YtmncpnpjhchliaaGreat
set_option maxRecDepth 100000
set_option linter.unusedVariables false
set_option linter.unusedSimpArgs false

/-- a rack, by the values of its table -/
structure Rck (n : Nat) (t : List (List Int)) : Prop where
  sq : Sq n t
  pos : 1 ≤ n
  row : ∀ x, x < n → IsP n (t.getD x [])
  sd : ∀ x y z, x < n → y < n → z < n → tv t x (tv t y z) = tv t (tv t x y) (tv t x z)
theorem rck_of {t : List (List Int)} (h : isRk t = true) : Rck t.length t := by
  obtain ⟨h1, h12, hs⟩ := isRk_sq h
  obtain ⟨_, hp, hk⟩ := isRk_parts h
  refine ⟨hs, h1, fun x hx => permOk_isP (hs.row hx) ?_, fun x y z hx hy hz => ?_⟩
  · refine List.all_eq_true.1 hp _ ?_
    rw [List.getD_eq_getElem?_getD, List.getElem?_eq_getElem hx]
    exact List.getElem_mem hx
  · have := allN_get (allN_get (allN_get hk hx) hy) hz
    unfold rkAt at this
    exact of_decide_eq_true this
section
variable {n : Nat} {t : List (List Int)}
theorem Rck.inj (h : Rck n t) {x y z : Nat} (hx : x < n) (hy : y < n) (hz : z < n) (e : tv t x y = tv t x z) : y = z := by
  obtain ⟨F, G, hl, h1, h2⟩ := h.row x hx
  unfold tv at e
  rw [h2 y hy, h2 z hz, Int.toNat_natCast, Int.toNat_natCast] at e
  rw [← (h1 y hy).2.2.2, ← (h1 z hz).2.2.2, e]
theorem Rck.sur (h : Rck n t) {x y : Nat} (hx : x < n) (hy : y < n) : ∃ z, z < n ∧ tv t x z = y := by
  obtain ⟨q, e1, hq, e2⟩ := backF_at (h.row x hx) y hy
  exact ⟨q, hq, by unfold tv; rw [e2, Int.toNat_natCast]⟩
theorem Rck.k_act (h : Rck n t) {x w : Nat} (hx : x < n) (hw : w < n) : tv t (tv t x x) w = tv t x w := by
  obtain ⟨z, hz, rfl⟩ := h.sur hx hw
  exact (h.sd x x z hx hx hz).symm
theorem Rck.k_inj (h : Rck n t) {x y : Nat} (hx : x < n) (hy : y < n) (e : tv t x x = tv t y y) : x = y := by
  have e1 : tv t x y = tv t y y := by rw [← h.k_act hx hy, e, h.k_act hy hy]
  exact h.inj hx hx hy (e.trans e1.symm)
theorem Rck.k_isP (h : Rck n t) : IsP n (knkL n t) := by
  have hl : (knkL n t).length = n := by simp [knkL]
  exact permOk_isP hl (permOk_of (F := fun x => tv t x x) hl (fun i hi => knk_getD hi) ⟨fun x hx => h.sq.lt hx hx, fun x y hx hy e => h.k_inj hx hy e⟩)
/-- the kink, taken back -/
def kbk (n : Nat) (t : List (List Int)) (u : Nat) : Nat := ((backF (knkL n t)).getD u 0).toNat
theorem Rck.kbk (h : Rck n t) {u : Nat} (hu : u < n) : kbk n t u < n ∧ tv t (kbk n t u) (kbk n t u) = u ∧ (backF (knkL n t)).getD u 0 = ((kbk n t u : Nat) : Int) := by
  obtain ⟨q, e1, hq, e2⟩ := backF_at h.k_isP u hu
  unfold Go.Proofs.YtmncpnpjhchliaaGreat.kbk
  rw [e1, Int.toNat_natCast]
  rw [knk_getD hq] at e2
  exact ⟨hq, by omega, rfl⟩
theorem Rck.kbk_eq (h : Rck n t) {u z : Nat} (hz : z < n) (e : tv t z z = u) : Go.Proofs.YtmncpnpjhchliaaGreat.kbk n t u = z := by
  have hu : u < n := by rw [← e]; exact h.sq.lt hz hz
  obtain ⟨h1, h2, _⟩ := h.kbk hu
  exact h.k_inj h1 hz (h2.trans e.symm)
theorem Rck.kbk_act (h : Rck n t) {u w : Nat} (hu : u < n) (hw : w < n) : tv t (Go.Proofs.YtmncpnpjhchliaaGreat.kbk n t u) w = tv t u w := by
  obtain ⟨h1, h2, _⟩ := h.kbk hu
  have := h.k_act h1 hw
  rw [h2] at this
  exact this.symm
theorem Rck.kbk_com (h : Rck n t) {x u : Nat} (hx : x < n) (hu : u < n) : tv t x (Go.Proofs.YtmncpnpjhchliaaGreat.kbk n t u) = Go.Proofs.YtmncpnpjhchliaaGreat.kbk n t (tv t x u) := by
  obtain ⟨h1, h2, _⟩ := h.kbk hu
  have := h.sd x _ _ hx h1 h1
  rw [h2] at this
  exact (h.kbk_eq (h.sq.lt hx h1) this.symm).symm
/-- the quandle of a rack -/
def quL (n : Nat) (t : List (List Int)) : List (List Int) := tabF n fun x y => (backF (knkL n t)).getD (tv t x y) 0
theorem Rck.qu_eq (h : Rck n t) : quL n t = tabF n fun x y => ((Go.Proofs.YtmncpnpjhchliaaGreat.kbk n t (tv t x y) : Nat) : Int) := by
  unfold quL tabF
  refine List.map_congr_left fun x hx => List.map_congr_left fun y hy => ?_
  rw [List.mem_range] at hx hy
  exact (h.kbk (h.sq.lt hx hy)).2.2
theorem Rck.qu_tv (h : Rck n t) {x y : Nat} (hx : x < n) (hy : y < n) : tv (quL n t) x y = Go.Proofs.YtmncpnpjhchliaaGreat.kbk n t (tv t x y) := by
  rw [h.qu_eq]; exact tv_tab hx hy
theorem Rck.qu_sq (h : Rck n t) : Sq n (quL n t) := by
  rw [h.qu_eq]; exact Sq.tab fun x y hx hy => (h.kbk (h.sq.lt hx hy)).1
theorem Rck.qu_dia (h : Rck n t) {x : Nat} (hx : x < n) : tv (quL n t) x x = x := by
  rw [h.qu_tv hx hx]; exact h.kbk_eq hx rfl
theorem Rck.qu_rk (h : Rck n t) (h12 : n ≤ 12) : isRk (quL n t) = true := by
  have hlt : ∀ {x y : Nat}, x < n → y < n → Go.Proofs.YtmncpnpjhchliaaGreat.kbk n t (tv t x y) < n := fun hx hy => (h.kbk (h.sq.lt hx hy)).1
  unfold isRk
  rw [isTab_of h.pos h12 h.qu_sq, Bool.true_and, Bool.and_eq_true, h.qu_sq.len]
  constructor
  · rw [List.all_eq_true]
    intro r hr
    obtain ⟨x, hx, rfl⟩ := List.getElem_of_mem hr
    have hxn : x < n := by rw [h.qu_sq.len] at hx; exact hx
    have e : (quL n t).getD x [] = (quL n t)[x] := by simp [List.getD_eq_getElem?_getD, List.getElem?_eq_getElem hx]
    rw [← e]
    refine permOk_of (F := fun y => Go.Proofs.YtmncpnpjhchliaaGreat.kbk n t (tv t x y)) (h.qu_sq.row hxn) (fun y hy => by rw [h.qu_sq.val hxn hy, h.qu_tv hxn hy]) ⟨fun y hy => hlt hxn hy, fun y z hy hz e2 => ?_⟩
    have a1 := (h.kbk (h.sq.lt hxn hy)).2.1
    have a2 := (h.kbk (h.sq.lt hxn hz)).2.1
    rw [e2] at a1
    exact h.inj hxn hy hz (a1.symm.trans a2)
  · unfold rkOk allN
    simp only [List.all_eq_true, List.mem_range]
    intro x hx y hy z hz
    unfold rkAt
    rw [decide_eq_true_eq, h.qu_tv hy hz, h.qu_tv hx hy, h.qu_tv hx hz, h.qu_tv hx (hlt hy hz), h.qu_tv (hlt hx hy) (hlt hx hz), h.kbk_act (h.sq.lt hx hy) (hlt hx hz), h.kbk_com hx (h.sq.lt hy hz), h.kbk_com (h.sq.lt hx hy) (h.sq.lt hx hz), h.sd x y z hx hy hz]
end

/-! ### the law's two questions -/
theorem plc_lt {s : Int} {xs : List Int} (hb : isBr s xs = true) : ∀ x ∈ xs, (plc x).toNat + 1 < s.toNat := fun x hx => by
  obtain ⟨h1, _, h3⟩ := isBr_let hb
  have := h3 x hx
  unfold plc; split <;> omega
theorem colsF_ok {f g : List (List Int)} {s : Int} {xs : List Int} (h : (colsF f g s xs).2 = 0) : isSol f g = true ∧ isBr s xs = true ∧ f.length ^ s.toNat ≤ 5000 ∧ (colsF f g s xs).1 = colsL f.length s.toNat f g xs := by
  unfold colsF at h ⊢
  by_cases q : codeF f g s xs = 0
  · rw [if_pos q] at h ⊢
    unfold colsC at h ⊢
    by_cases q2 : f.length ^ s.toNat ≤ 5000
    · rw [if_pos q2]; exact ⟨(codeF_zero q).1, (codeF_zero q).2, q2, rfl⟩
    · rw [if_neg q2] at h; exact absurd h (by decide)
  · rw [if_neg q] at h; exact absurd h (by decide)
theorem colsF_of {f g : List (List Int)} {s : Int} {xs : List Int} (h1 : isSol f g = true) (h2 : isBr s xs = true) (h3 : f.length ^ s.toNat ≤ 5000) : colsF f g s xs = (colsL f.length s.toNat f g xs, 0) := by
  unfold colsF
  have : codeF f g s xs = 0 := by unfold codeF; rw [h1, h2]; rfl
  rw [if_pos this]
  unfold colsC
  rw [if_pos h3]
theorem cols_conj {f g : List (List Int)} {s : Int} {xs : List Int} {x : Int} (h : (colsF f g s xs).2 = 0) (hx : x ≠ 0 ∧ 1 - s ≤ x ∧ x ≤ s - 1) (hb : isBr s ([x] ++ xs ++ [-x]) = true) : (colsF f g s ([x] ++ xs ++ [-x])).1.length = (colsF f g s xs).1.length ∧ (colsF f g s ([x] ++ xs ++ [-x])).2 = 0 := by
  obtain ⟨h1, h2, h3, h4⟩ := colsF_ok h
  obtain ⟨p1, p12, sf, sg⟩ := isSol_sq h1
  have hs := (isBr_let h2).1
  rw [colsF_of h1 hb h3, h4]
  refine ⟨conj_cnt p1 sf sg (isSol_coll h1) hx.1 (by unfold plc; split <;> omega) (plc_lt h2), rfl⟩
theorem cols_stab {t : List (List Int)} {s e : Int} {xs : List Int} (hr : isRk t = true) (hd : ∀ x, x < t.length → tv t x x = x) (he : e = 1 ∨ e = -1) (h : (colsF t (cstL t.length) s xs).2 = 0) (h' : (colsF t (cstL t.length) (s + 1) (xs ++ [e * s])).2 = 0) : (colsF t (cstL t.length) (s + 1) (xs ++ [e * s])).1.length = (colsF t (cstL t.length) s xs).1.length := by
  obtain ⟨h1, h2, h3, h4⟩ := colsF_ok h
  obtain ⟨_, h6, h7, h8⟩ := colsF_ok h'
  obtain ⟨p1, p12, sf, sg⟩ := isSol_sq h1
  have hs := (isBr_let h2).1
  rw [h4, h8]
  obtain ⟨S, rfl⟩ : ∃ S : Nat, s = (S : Int) + 1 := ⟨(s - 1).toNat, by omega⟩
  have e1 : ((S : Int) + 1).toNat = S + 1 := by omega
  have e2 : ((S : Int) + 1 + 1).toNat = S + 2 := by omega
  have hp := plc_lt h2
  rw [e1] at hp ⊢
  rw [e2]
  refine stab_cnt p1 sf sg (isSol_coll h1) (fun x y hx hy => ?_) hd ?_ hp
  · exact tv_tab (V := fun x _ => x) hx hy
  · rcases he with rfl | rfl
    · left; omega
    · right; omega
theorem cols_code2 {f g : List (List Int)} {s : Int} {xs : List Int} (h : (colsF f g s xs).2 ≠ 0) : (colsF f g s xs).1.length = 0 := by
  unfold colsF colsC at *
  split
  · rename_i h1
    rw [if_pos h1] at h
    split
    · rename_i h2
      rw [if_pos h2] at h; exact absurd rfl h
    · rfl
  · rfl
end Go.Proofs.YtmncpnpjhchliaaGreat
