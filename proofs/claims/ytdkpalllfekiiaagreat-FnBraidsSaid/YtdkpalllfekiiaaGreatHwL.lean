/-
  Words out of powers of the half twist and out of permutations, as a loop makes them.
  No condition.
-/
import Derived.Test.YtdkpalllfekiiaaGreatBase6
import Derived.Test.YtdkpalllfekiiaaGreatNbI
namespace Go.Proofs.YtdkpalllfekiiaaGreat
set_option maxRecDepth 100000
set_option linter.unusedVariables false
set_option linter.unusedSimpArgs false
open Go.RowKit

/-- a word that is the power e and the permutation braids L -/
structure WA (M : Nat) (X : List Int) (e : Int) (L : List Pm) : Prop where
  ltr : ∀ x ∈ X, Ltr M x
  fx : AFx M L
  sim : Sim M (begS M (0, []) X) (e, L)
/-- a word that lacks the word of p -/
structure WB (M : Nat) (X : List Int) (p : Pm) (e : Int) (L : List Pm) : Prop where
  ltr : ∀ x ∈ X, Ltr M x
  fp : Fx M p
  fx : AFx M L
  sim : ∀ ws, Wd M p ws → Sim M (begS M (0, []) (X ++ ws)) (e, L)
theorem afx_nil (M : Nat) : AFx M ([] : List Pm) := fun p hp => by simp at hp
theorem WA.beg {M : Nat} {X : List Int} {e : Int} {L : List Pm} (h : WA M X e L) : AFx M (begS M (0, []) X).2 := beg_fx X _ (afx_nil M) h.ltr
theorem WA.start (M : Nat) : WA M [] 0 [] := ⟨fun x hx => by simp at hx, afx_nil M, Sim.refl _ _⟩
theorem ltr_app {M : Nat} {X Y : List Int} (h1 : ∀ x ∈ X, Ltr M x) (h2 : ∀ x ∈ Y, Ltr M x) : ∀ x ∈ X ++ Y, Ltr M x := fun x hx => (List.mem_append.1 hx).elim (h1 x) (h2 x)
theorem inv_ltr {M : Nat} {ws : List Int} (h : ∀ x ∈ ws, Ltr M x) : ∀ x ∈ invL ws, Ltr M x := fun y hy => by
  simp only [invL, List.mem_reverse, List.mem_map] at hy
  obtain ⟨z, hz, rfl⟩ := hy
  exact (h z hz).neg
theorem WA.up {M : Nat} (h2 : 2 ≤ M) (h6 : M ≤ 6) {X : List Int} {e : Int} (h : WA M X e []) : WA M (X ++ htW M) (e + 1) [] := by
  have hw := htW_wd h2 h6
  have hl := wd_ltr hw (tw_fx M)
  refine ⟨ltr_app h.ltr hl, h.fx, ?_⟩
  rw [beg_app]
  exact Sim.trans (beg_fx _ _ (afx_nil M) hl) (Sim.beg (htW M) h.beg (afx_nil M) hl h.sim) (tws_sim hw e)
theorem WA.dn {M : Nat} (h2 : 2 ≤ M) (h6 : M ≤ 6) {X : List Int} {e : Int} (h : WA M X e []) : WA M (X ++ invL (htW M)) (e - 1) [] := by
  have hw := htW_wd h2 h6
  have hl := inv_ltr (wd_ltr hw (tw_fx M))
  refine ⟨ltr_app h.ltr hl, h.fx, ?_⟩
  rw [beg_app]
  exact Sim.trans (beg_fx _ _ (afx_nil M) hl) (Sim.beg (invL (htW M)) h.beg (afx_nil M) hl h.sim) (twi_sim hw e)
theorem WA.more {M : Nat} {X : List Int} {e : Int} {L : List Pm} {p : Pm} (h : WA M X e L) (hp : Fx M p) : WB M X p e (L ++ [p]) := by
  have hL : AFx M (L ++ [p]) := h.fx.app fun q hq => by simp at hq; rw [hq]; exact hp
  refine ⟨h.ltr, hp, hL, fun ws hw => ?_⟩
  have hl := wd_ltr hw hp
  rw [beg_app]
  exact Sim.trans (beg_fx _ _ h.fx hl) (Sim.beg ws h.beg h.fx hl h.sim) (wd_sim hw hp (e, L) h.fx)
theorem WB.step {M : Nat} {X : List Int} {p : Pm} {e : Int} {L : List Pm} {k : Nat} (h : WB M X p e L) (hs : St p k) : WB M (X ++ [(k : Int) + 1]) ((Pm.s k).m p) e L := by
  have hk := h.fp.st hs
  refine ⟨ltr_app h.ltr fun x hx => ?_, (Fx.s hk).m h.fp, h.fx, fun ws hw => ?_⟩
  · simp at hx; rw [hx]; exact ⟨by omega, by rw [plN_suc]; exact hk⟩
  · rw [List.append_assoc]
    exact h.sim _ (.cons p k ws hs hw)
theorem WB.close {M : Nat} {X : List Int} {p : Pm} {e : Int} {L : List Pm} (h : WB M X p e L) (hp : ∀ k, k + 1 < M → ¬ St p k) : WA M X e L := by
  have e1 : p = Pm.one := asc_one h.fp hp
  have := h.sim [] (by rw [e1]; exact .nil)
  rw [List.append_nil] at this
  exact ⟨h.ltr, h.fx, this⟩
/-- the number that rises at each letter -/
theorem mom_up {n : Nat} {p : Pm} {k : Nat} (h : Fx n p) (hs : St p k) : mom n p < mom n ((Pm.s k).m p) := by
  have hk := h.st hs
  have := sumF_two (F := fun i => i * ((Pm.s k).m p).f i) (G := fun i => i * p.f i) (show k < k + 1 by omega) n hk (fun i hi h1 h2 => by
    show i * p.f (sg k i) = i * p.f i
    rw [sg_o h1 h2])
  have e1 : ((Pm.s k).m p).f k = p.f (k + 1) := by show p.f (sg k k) = _; rw [sg_k]
  have e2 : ((Pm.s k).m p).f (k + 1) = p.f k := by show p.f (sg k (k + 1)) = _; rw [sg_k1]
  simp only [e1, e2] at this
  unfold St at hs
  unfold mom
  have e3 : (k + 1) * p.f k = k * p.f k + p.f k := Nat.succ_mul _ _
  have e4 : (k + 1) * p.f (k + 1) = k * p.f (k + 1) + p.f (k + 1) := Nat.succ_mul _ _
  omega
theorem mom_le {n : Nat} {p : Pm} (h6 : n ≤ 6) (h : Fx n p) : mom n p ≤ 216 := by
  have h1 := mom_lt h
  have h2 : n * (n * n) ≤ 6 * (6 * 6) := Nat.mul_le_mul h6 (Nat.mul_le_mul h6 h6)
  omega
/-- a word of letters that is not too long is a braid -/
theorem ltr_br {M : Nat} (h2 : 2 ≤ M) (h6 : M ≤ 6) {X : List Int} (hx : ∀ x ∈ X, Ltr M x) (hl : X.length ≤ 30) : isBr M X = true := by
  have e1 : wrap64 (1 - (M : Int)) = 1 - (M : Int) := IntWalk.wrap64_in _ ⟨by omega, by omega⟩
  have e2 : wrap64 ((M : Int) - 1) = (M : Int) - 1 := IntWalk.wrap64_in _ ⟨by omega, by omega⟩
  simp only [isBr, Bool.and_eq_true, decide_eq_true_eq, List.all_eq_true]
  refine ⟨⟨⟨by omega, by omega⟩, hl⟩, fun x h => ?_⟩
  obtain ⟨h0, h1⟩ := hx x h
  unfold plN at h1
  unfold isLet
  simp only [e1, e2, Bool.and_eq_true, decide_eq_true_eq, bne_iff_ne, ne_eq]
  split at h1 <;> exact ⟨h0, by omega, by omega⟩
theorem htW_gc : ∀ n : Fin 7, 2 ≤ n.1 → ((htW n.1).all fun x => decide (-6 ≤ x) && decide (x ≤ 6)) = true := by decide +kernel
theorem htW_gb {M : Nat} (h2 : 2 ≤ M) (h6 : M ≤ 6) : ∀ q, -6 ≤ (htW M).getD q 0 ∧ (htW M).getD q 0 ≤ 6 := by
  intro q
  have h := htW_gc ⟨M, by omega⟩ h2
  rw [List.all_eq_true] at h
  rw [List.getD_eq_getElem?_getD]
  by_cases hq : q < (htW M).length
  · rw [List.getElem?_eq_getElem hq]
    have := h _ (List.getElem_mem hq)
    simp only [Bool.and_eq_true, decide_eq_true_eq] at this
    exact this
  · rw [List.getElem?_eq_none (by omega)]; simp
theorem invL_take (ws : List Int) : ∀ u, u < ws.length → (invL ws).take (u + 1) = (invL ws).take u ++ [-(ws.getD (ws.length - 1 - u) 0)] := by
  intro u hu
  have hl : u < (invL ws).length := by simp [invL]; exact hu
  rw [List.take_succ_eq_append_getElem hl]
  congr 2
  simp only [invL, List.getElem_reverse, List.getElem_map, List.length_map]
  rw [List.getD_eq_getElem?_getD, List.getElem?_eq_getElem (by omega)]; rfl
theorem WA.same {M : Nat} {X ys : List Int} {r r' : Int × List (List Int)} {Z : List Pm} (h2 : 2 ≤ M) (h : WA M X r.1 Z) (hy : ∀ x ∈ ys, Ltr M x) (hZ : Sim M (begS M (0, []) ys) (r.1, Z)) (hr : NFo M (begS M (0, []) ys) r) (hr' : NFo M (begS M (0, []) X) r') : r = r' :=
  nfo_sim h2 (beg_fx ys _ (afx_nil M) hy) h.beg (Sim.trans h.fx hZ h.sim.symm) hr hr'
end Go.Proofs.YtdkpalllfekiiaaGreat
