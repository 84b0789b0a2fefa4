/-
  Closures of braids: what the law's walk asks of the plain lists.
  No condition.
-/
import Derived.Test.YtehomfbehhlhmaaCloM
import Derived.Test.YtehomfbehhlhmaaCompB
import Derived.Test.YtehomfbehhlhmaaStabB
import Derived.Test.YtehomfbehhlhmaaDestB
import Derived.Test.YtehomfbehhlhmaaConjB
import Derived.Test.YtehomfbehhlhmaaDrawC
namespace Go.Proofs.Ytehomfbehhlhmaa
set_option linter.unusedVariables false
set_option linter.unusedSimpArgs false
set_option maxRecDepth 100000
open Go.RowKit

theorem tblF_at {w : World} {a : Option Addr} {N : Nat} {v : Nat → Nat → Int} (h : Tbl w a N (tabF N v)) (i : Nat) (hi : i < N) : ∃ b off ai ci, a = some ⟨b, off, none⟩ ∧ w.cell? ⟨b, off + i, none⟩ = some (.slice ai N ci) ∧
    ∀ j, j < N → ∃ b' o', ai = some ⟨b', o', none⟩ ∧ w.cell? ⟨b', o' + j, none⟩ = some (.int .i64 (v i j)) := by
  obtain ⟨b, off, ai, ni, ci, rfl, h1, h2, h3⟩ := h.at i hi
  have hl := h2.len
  rw [tabF_row hi] at hl h2
  obtain rfl : ni = N := by simpa using hl
  refine ⟨b, off, ai, ci, rfl, h1, fun j hj => ?_⟩
  obtain ⟨b', o', e1, e2⟩ := h2.at j hj
  refine ⟨b', o', e1, e2.trans ?_⟩
  simp [List.getD_eq_getElem?_getD, hj]
theorem sumI_bd {n : Nat} {f : Nat → Int} (K : Nat) (h : ∀ i, -(K : Int) ≤ f i ∧ f i ≤ K) : -((n * K : Nat) : Int) ≤ sumI n f ∧ sumI n f ≤ ((n * K : Nat) : Int) := by
  induction n with
  | zero => simp [sumI]
  | succ n ih =>
    show -_ ≤ sumI n f + f n ∧ sumI n f + f n ≤ _
    have := h n
    rw [Nat.add_mul, Nat.one_mul]
    omega
theorem psum_bd {N i j : Nat} {H : Nat → Nat → Int} (hN : N ≤ 6) (hi : i ≤ N) (hj : j ≤ N) (h : ∀ x y, -(30 : Int) ≤ H x y ∧ H x y ≤ 30) : -2000 ≤ sumI i (fun x => sumI N (H x)) + sumI j (H i) ∧ sumI i (fun x => sumI N (H x)) + sumI j (H i) ≤ 2000 := by
  have h1 := sumI_bd (n := j) 30 (fun y => h i y)
  have h2 := sumI_bd (n := i) 180 (f := fun x => sumI N (H x)) (fun x => by
    have := sumI_bd (n := N) 30 (fun y => h x y)
    have : N * 30 ≤ 180 := by omega
    omega)
  omega
theorem hal_bd (s : Nat) (xs : List Int) (hx : xs.length ≤ 30) (x y : Nat) : -30 ≤ halV (lnkV s xs xs.length) x y ∧ halV (lnkV s xs xs.length) x y ≤ 30 := by
  have h := lnkV_bd s xs xs.length x y
  unfold halV
  split
  · omega
  · have : -100 ≤ lnkV s xs xs.length x y ∧ lnkV s xs xs.length x y ≤ 100 := by omega
    generalize lnkV s xs xs.length x y = z at *
    rcases (by omega : z < 0 ∨ 0 ≤ z) with hz | hz
    · obtain ⟨u, rfl⟩ : ∃ u : Int, z = -u := ⟨-z, by omega⟩
      rw [Int.neg_tdiv, Int.tdiv_eq_ediv_of_nonneg (by omega)]; omega
    · rw [Int.tdiv_eq_ediv_of_nonneg hz]; omega
/-- all that the law asks of a braid's linking numbers -/
theorem lnk_facts (S : Int) (ys : List Int) (hb : isBr S ys = true) : ∃ (P N : Nat) (L : List Int) (H : Nat → Nat → Int), S = P ∧ 2 ≤ P ∧ P ≤ 6 ∧ N ≤ P ∧ ys.length ≤ 30 ∧ lnkF S ys = (tabF N H, 0) ∧ compF S ys = (L, 0) ∧ L.length = P ∧ grtL L = N ∧ (∀ x ∈ L, 0 ≤ x ∧ x ≤ 1000000) ∧
    (∀ x y, -30 ≤ H x y ∧ H x y ≤ 30) ∧ (∀ x y, H x y = H y x) ∧ sumI N (fun x => sumI N (H x)) = sgS ys ∧ isBr S (negL ys) = true ∧ lnkF S (negL ys) = (tabF N (fun x y => -H x y), 0) := by
  have hl := isBr_let hb
  obtain ⟨P, rfl⟩ : ∃ P : Nat, S = P := ⟨S.toNat, by omega⟩
  have hL := LetS.of hb
  refine ⟨P, ncL P ys, compL P ys, halV (lnkV P ys ys.length), rfl, by omega, by omega, ncL_le P ys, hl.2.1, ?_, ?_, compL_len P ys, (ncL_cast P ys).symm, fun x hx => ?_, hal_bd P ys hl.2.1, hal_sym P ys, sum_hal P ys (by omega) (by omega) hL, isBr_neg _ _ hb, ?_⟩
  · unfold lnkF; rw [if_pos hb]; simp
  · unfold compF; rw [if_pos hb]; simp
  · obtain ⟨i, hi, rfl⟩ := List.getElem_of_mem hx
    rw [compL_len] at hi
    have := compL_get P ys i hi
    rw [List.getD_eq_getElem?_getD, List.getElem?_eq_getElem (by rw [compL_len]; exact hi)] at this
    simp at this
    omega
  · unfold lnkF
    rw [if_pos (isBr_neg _ _ hb)]
    simp only [Int.toNat_natCast]
    rw [ncL_neg]
    congr 2
    funext x y
    exact hal_neg P ys (fun x hx => (hl.2.2 x hx).1) x y
theorem sml_i64 {xs : List Int} (h : Sml xs) : I64s xs := fun x hx => by have := h x hx; exact ⟨by omega, by omega⟩
theorem br_i64 {s : Int} {xs : List Int} (h : isBr s xs = true) : I64s xs ∧ I64 s := by
  have := isBr_let h
  exact ⟨fun x hx => by have := this.2.2 x hx; exact ⟨by omega, by omega⟩, ⟨by omega, by omega⟩⟩
theorem comp_facts (S : Int) (ys : List Int) (hb : isBr S ys = true) : ∃ L, compF S ys = (L, 0) ∧ L.length ≤ 6 ∧ L = compL S.toNat ys ∧ ∀ x ∈ L, 0 ≤ x ∧ x ≤ 1000000 := by
  obtain ⟨P, N, L, H, rfl, h2, h6, hN, hl, h1, h3, h4, h5, h7, _⟩ := lnk_facts S ys hb
  refine ⟨L, h3, by omega, ?_, h7⟩
  unfold compF at h3
  rw [if_pos hb] at h3
  exact (congrArg Prod.fst h3).symm
/-- stabilizing, with what follows -/
theorem stab_facts (S : Int) (zs : List Int) (g : Int) : (∃ k : Int, (k = 1 ∨ k = 2 ∨ k = 3) ∧ stabF S zs g = (0, [], k)) ∨
    (∃ (us L L' : List Int), stabF S zs g = (S + 1, us, 0) ∧ isBr S zs = true ∧ isBr (S + 1) us = true ∧ us.length ≤ 30 ∧ destF (S + 1) us = (S, zs, 0) ∧ compF S zs = (L, 0) ∧ compF (S + 1) us = (L', 0) ∧ L.length ≤ 6 ∧ L'.length ≤ 6 ∧ (∀ x ∈ L, 0 ≤ x ∧ x ≤ 1000000) ∧ (∀ x ∈ L', 0 ≤ x ∧ x ≤ 1000000) ∧ grtL L = grtL L') := by
  unfold stabF
  cases hb : isBr S zs with
  | false => exact .inl ⟨1, .inl rfl, by simp⟩
  | true =>
    by_cases hg : g = 1 ∨ g = -1
    · by_cases h6 : S = 6 ∨ zs.length = 30
      · refine .inl ⟨3, .inr (.inr rfl), by simp [hg, h6]⟩
      · refine .inr ?_
        have hl := isBr_let hb
        obtain ⟨P, rfl⟩ : ∃ P : Nat, S = P := ⟨S.toNat, by omega⟩
        have hP5 : P ≤ 5 := by omega
        have hz29 : zs.length ≤ 29 := by omega
        have hgS : g * (P : Int) = P ∨ g * (P : Int) = -P := by rcases hg with rfl | rfl <;> simp
        have hkp : plc (g * (P : Int)) = (P : Int) - 1 := by unfold plc; rcases hgS with h | h <;> (rw [h]; split <;> omega)
        have hbu : isBr ((P : Int) + 1) (zs ++ [g * P]) = true := by
          refine isBr_mk (by omega) (by simp; omega) fun x hx => ?_
          rcases List.mem_append.1 hx with hx | hx
          · have := hl.2.2 x hx; omega
          · simp at hx; subst hx; omega
        obtain ⟨L, hL1, hL2, hL3, hL4⟩ := comp_facts _ _ hb
        obtain ⟨L', hL1', hL2', hL3', hL4'⟩ := comp_facts _ _ hbu
        refine ⟨zs ++ [g * P], L, L', by simp [hg, h6], rfl, hbu, by simp; omega, ?_, hL1, hL1', hL2, hL2', hL4, hL4', ?_⟩
        · unfold destF
          have hlast : (zs ++ [g * (P : Int)]).getD ((zs ++ [g * (P : Int)]).length - 1) 0 = g * P := by simp [List.getD_eq_getElem?_getD]
          have hcnt : cntP ((P : Int) + 1) (zs ++ [g * P]) = 1 := by
            unfold cntP
            rw [List.countP_append]
            have h0 : zs.countP (fun x => plc x == (P : Int) + 1 - 2) = 0 := by
              rw [List.countP_eq_zero]
              intro x hx
              have := hl.2.2 x hx
              have : plc x ≠ (P : Int) + 1 - 2 := by unfold plc; split <;> omega
              simpa using this
            rw [h0]
            simp [hkp]
            try omega
          rw [if_pos hbu, if_pos (by omega), if_pos (by simp), hlast, hkp, if_pos (by simp; omega), if_pos hcnt]
          simp
          try omega
        · rw [hL3, hL3']
          have e : ((P : Int) + 1).toNat = P + 1 := by omega
          rw [e, Int.toNat_natCast]
          exact (num_stab P zs (g * P) (by omega) hP5 (LetS.of hb) (by unfold kpl; rw [hkp]; omega)).symm
    · refine .inl ⟨2, .inr (.inl rfl), by simp [hg]⟩
/-- conjugating, with what follows -/
theorem conj_facts (S : Int) (zs : List Int) (g : Int) : (∃ k : Int, (k = 1 ∨ k = 2 ∨ k = 3) ∧ conjF S zs g = (0, [], k)) ∨
    (∃ (us L L' : List Int), conjF S zs g = (S, us, 0) ∧ isBr S zs = true ∧ isBr S us = true ∧ us.length ≤ 30 ∧ compF S zs = (L, 0) ∧ compF S us = (L', 0) ∧ L.length ≤ 6 ∧ L'.length ≤ 6 ∧ (∀ x ∈ L, 0 ≤ x ∧ x ≤ 1000000) ∧ (∀ x ∈ L', 0 ≤ x ∧ x ≤ 1000000) ∧ grtL L = grtL L') := by
  unfold conjF
  cases hb : isBr S zs with
  | false => exact .inl ⟨1, .inl rfl, by simp⟩
  | true =>
    cases hg : isLet S g with
    | false => exact .inl ⟨2, .inr (.inl rfl), by simp⟩
    | true =>
      by_cases h28 : zs.length ≤ 28
      · refine .inr ?_
        have hl := isBr_let hb
        obtain ⟨P, rfl⟩ : ∃ P : Nat, S = P := ⟨S.toNat, by omega⟩
        have e1 : wrap64 (1 - (P : Int)) = 1 - P := IntWalk.wrap64_in _ ⟨by omega, by omega⟩
        have e2 : wrap64 ((P : Int) - 1) = P - 1 := IntWalk.wrap64_in _ ⟨by omega, by omega⟩
        have hg' : g ≠ 0 ∧ 1 - (P : Int) ≤ g ∧ g ≤ P - 1 := by
          have := hg
          simp only [isLet, Bool.and_eq_true, decide_eq_true_eq, e1, e2] at this
          exact this
        have hbu : isBr (P : Int) ([g] ++ zs ++ [-g]) = true := by
          refine isBr_mk hl.1 (by simp; omega) fun x hx => ?_
          simp at hx
          rcases hx with rfl | hx | rfl
          · exact hg'
          · exact hl.2.2 x hx
          · omega
        obtain ⟨L, hL1, hL2, hL3, hL4⟩ := comp_facts _ _ hb
        obtain ⟨L', hL1', hL2', hL3', hL4'⟩ := comp_facts _ _ hbu
        refine ⟨[g] ++ zs ++ [-g], L, L', by simp [h28], rfl, hbu, by simp; omega, hL1, hL1', hL2, hL2', hL4, hL4', ?_⟩
        rw [hL3, hL3', Int.toNat_natCast]
        exact (num_conj P zs g (by omega) (by omega) (LetS.of hb) (by have := plc_let hg'; unfold kpl; omega) (by unfold kpl; rw [plc_neg])).symm
      · refine .inl ⟨3, .inr (.inr rfl), by simp [h28]⟩
end Go.Proofs.Ytehomfbehhlhmaa
