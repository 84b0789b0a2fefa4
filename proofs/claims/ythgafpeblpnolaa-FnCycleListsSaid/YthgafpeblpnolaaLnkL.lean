/-
  Linking numbers of a braid, in plain lists.
  No condition.
-/
import Derived.Test.YthgafpeblpnolaaComp
import Derived.Test.YthgafpeblpnolaaBase
namespace Go.Proofs.Ythgafpeblpnolaa
set_option linter.unusedVariables false
set_option linter.unusedSimpArgs false

/-! ### tables by a function, one value of which turns -/
def updF (v : Nat → Nat → Int) (a b : Nat) (z : Int) : Nat → Nat → Int := fun x y => if x = a ∧ y = b then z else v x y
theorem tabF_row {n : Nat} {v : Nat → Nat → Int} {x : Nat} (h : x < n) : (tabF n v).getD x [] = (List.range n).map fun y => v x y := tabF_get n v x h
theorem tabF_val {n : Nat} {v : Nat → Nat → Int} {x y : Nat} (hx : x < n) (hy : y < n) : ((tabF n v).getD x []).getD y 0 = v x y := by
  rw [tabF_row hx]; simp [List.getD_eq_getElem?_getD, List.getElem?_map, hy]
theorem tabF_congr {n : Nat} {u v : Nat → Nat → Int} (h : ∀ x y, x < n → y < n → u x y = v x y) : tabF n u = tabF n v := by
  unfold tabF
  apply List.map_congr_left
  intro x hx
  apply List.map_congr_left
  intro y hy
  exact h x y (List.mem_range.1 hx) (List.mem_range.1 hy)
theorem tabF_upd {n : Nat} {v : Nat → Nat → Int} {a b : Nat} (ha : a < n) (hb : b < n) (z : Int) : (tabF n v).set a (((tabF n v).getD a []).set b z) = tabF n (updF v a b z) := by
  apply List.ext_getElem
  · simp [tabF]
  · intro i h1 h2
    have hi : i < n := by simpa [tabF] using h2
    have e2 : (tabF n (updF v a b z))[i] = (List.range n).map fun y => updF v a b z i y := by simp [tabF]
    rw [e2, List.getElem_set]
    by_cases e : a = i
    · subst e
      rw [if_pos rfl, tabF_row ha]
      apply List.ext_getElem
      · simp
      · intro j g1 g2
        have hj : j < n := by simpa using g2
        rw [List.getElem_set]
        by_cases e : b = j
        · subst e; simp [updF]
        · rw [if_neg e]; simp [updF, fun h => e (Eq.symm h)]
          intro h; exact absurd h.symm e
    · rw [if_neg e]
      have : (tabF n v)[i]'(by simpa [tabF] using hi) = (List.range n).map fun y => v i y := by simp [tabF]
      rw [this]
      apply List.map_congr_left
      intro y hy
      simp [updF, fun h => e (Eq.symm h)]
      intro h; exact absurd h.symm e

/-! ### labels are numbers of at least 0, and the greatest of them -/
theorem orbN_sub (f : Nat → Nat) (m : Nat) : ∀ (c : List Nat) (y x : Nat), x ∈ c → x ∈ orbN f m c y := by
  induction m with
  | zero => intro c y x h; exact h
  | succ m ih =>
    intro c y x h
    unfold orbN
    split
    · exact h
    · exact ih _ _ _ (List.mem_append_left _ h)
theorem orbF_mem (f : Nat → Nat) (n x : Nat) : x ∈ orbF f n x := orbN_sub f n _ _ _ (List.mem_singleton.2 rfl)
theorem labS_all (f : Nat → Nat) (n : Nat) : ∀ s, s ≤ n → ∀ i, i < n → (i < s → 0 ≤ (labS f n s).1.getD i 0) ∧ (labS f n s).1.getD i 0 < (labS f n s).2 ∧ -1 ≤ (labS f n s).1.getD i 0 := by
  intro s
  induction s with
  | zero =>
    intro _ i hi
    refine ⟨fun h => absurd h (by omega), ?_, ?_⟩ <;> simp [labS, List.getD_eq_getElem?_getD, List.getElem?_replicate, hi]
  | succ s ih =>
    intro hs i hi
    have h := ih (by omega) i hi
    have hl := labS_len f n s
    unfold labS
    split
    · rename_i h0
      refine ⟨fun hlt => ?_, h.2⟩
      by_cases e : i = s
      · subst e; exact h0
      · exact h.1 (by omega)
    · simp only
      rw [setAll_get _ _ i _ (by omega)]
      by_cases hm : i ∈ orbF f n s
      · rw [if_pos hm]
        refine ⟨fun _ => by omega, by omega, by omega⟩
      · rw [if_neg hm]
        refine ⟨fun hlt => ?_, by have := h.2.1; omega, h.2.2⟩
        by_cases e : i = s
        · subst e; exact absurd (orbF_mem f n i) hm
        · exact h.1 (by omega)
theorem compL_get (s : Nat) (xs : List Int) (i : Nat) (h : i < s) : 0 ≤ (compL s xs).getD i 0 ∧ (compL s xs).getD i 0 < s := by
  have h1 := labS_all (fun i => ((brP s xs).getD i 0).toNat) s s (Nat.le_refl _) i h
  have h2 := labS_num (fun i => ((brP s xs).getD i 0).toNat) s s
  exact ⟨h1.1 h, by have := h1.2.1; unfold compL labF; omega⟩
/-- one more than the greatest of some numbers of at least 0 -/
def grtL (L : List Int) : Int := L.foldl (fun m x => if m ≤ x then x + 1 else m) 0
theorem grtL_take {L : List Int} {k : Nat} (h : k < L.length) : grtL (L.take (k + 1)) = if grtL (L.take k) ≤ L.getD k 0 then L.getD k 0 + 1 else grtL (L.take k) := by
  unfold grtL
  rw [List.take_succ_eq_append_getElem h, List.foldl_append]
  simp [List.getD_eq_getElem?_getD, List.getElem?_eq_getElem h]
theorem grtL_spec (L : List Int) (h0 : ∀ x ∈ L, 0 ≤ x) : 0 ≤ grtL L ∧ (∀ x ∈ L, x < grtL L) ∧ (grtL L = 0 ∨ grtL L - 1 ∈ L) := by
  have : ∀ (L : List Int) (m : Int), 0 ≤ m → (∀ x ∈ L, 0 ≤ x) → m ≤ L.foldl (fun m x => if m ≤ x then x + 1 else m) m ∧ (∀ x ∈ L, x < L.foldl (fun m x => if m ≤ x then x + 1 else m) m) ∧ (L.foldl (fun m x => if m ≤ x then x + 1 else m) m = m ∨ L.foldl (fun m x => if m ≤ x then x + 1 else m) m - 1 ∈ L) := by
    intro L
    induction L with
    | nil => intro m hm _; exact ⟨Int.le_refl _, fun x hx => absurd hx (by simp), .inl rfl⟩
    | cons y r ih =>
      intro m hm hx
      rw [List.foldl_cons]
      have hy := hx y (List.mem_cons_self ..)
      by_cases e : m ≤ y
      · rw [if_pos e]
        obtain ⟨h1, h2, h3⟩ := ih (y + 1) (by omega) (fun x hxr => hx x (List.mem_cons_of_mem _ hxr))
        refine ⟨by omega, fun x hxx => ?_, ?_⟩
        · rcases List.mem_cons.1 hxx with rfl | hxx
          · omega
          · exact h2 x hxx
        · rcases h3 with h3 | h3
          · right; rw [h3]; simp
          · right; exact List.mem_cons_of_mem _ h3
      · rw [if_neg e]
        obtain ⟨h1, h2, h3⟩ := ih m hm (fun x hxr => hx x (List.mem_cons_of_mem _ hxr))
        refine ⟨h1, fun x hxx => ?_, ?_⟩
        · rcases List.mem_cons.1 hxx with rfl | hxx
          · omega
          · exact h2 x hxx
        · rcases h3 with h3 | h3
          · left; exact h3
          · right; exact List.mem_cons_of_mem _ h3
  exact this L 0 (by omega) h0
theorem grtL_max {L : List Int} {M : Int} (h0 : ∀ x ∈ L, 0 ≤ x) (hM : M ∈ L) (h1 : ∀ x ∈ L, x ≤ M) : M + 1 = grtL L := by
  obtain ⟨a, b, c⟩ := grtL_spec L h0
  have h2 := b M hM
  rcases c with c | c
  · have := h0 M hM; omega
  · have := h1 _ c; omega
/-- how many components there are -/
def ncL (s : Nat) (xs : List Int) : Nat := (grtL (compL s xs)).toNat
theorem compL_nn (s : Nat) (xs : List Int) : ∀ x ∈ compL s xs, 0 ≤ x := fun x hx => by
  obtain ⟨i, hi, rfl⟩ := List.getElem_of_mem hx
  have := compL_get s xs i (by rw [compL_len] at hi; exact hi)
  rw [getD_at hi] at this
  exact this.1
theorem ncL_cast (s : Nat) (xs : List Int) : ((ncL s xs : Nat) : Int) = grtL (compL s xs) := by
  have := (grtL_spec _ (compL_nn s xs)).1
  unfold ncL; omega
theorem ncL_le (s : Nat) (xs : List Int) : ncL s xs ≤ s := by
  obtain ⟨a, b, c⟩ := grtL_spec _ (compL_nn s xs)
  rcases c with c | c
  · unfold ncL; omega
  · obtain ⟨i, hi, e⟩ := List.getElem_of_mem c
    have := compL_get s xs i (by rw [compL_len] at hi; exact hi)
    rw [getD_at hi, e] at this
    unfold ncL; omega
theorem compL_lab (s : Nat) (xs : List Int) (i : Nat) (h : i < s) : ∃ a, a < ncL s xs ∧ (compL s xs).getD i 0 = ((a : Nat) : Int) := by
  have h1 := compL_get s xs i h
  have hi : i < (compL s xs).length := by rw [compL_len]; exact h
  have h2 := (grtL_spec _ (compL_nn s xs)).2.1 _ (List.getElem_mem hi)
  rw [← getD_at hi, ← ncL_cast] at h2
  exact ⟨((compL s xs).getD i 0).toNat, by omega, by omega⟩

/-! ### the numbers -/
def labN (s : Nat) (xs : List Int) (i : Nat) : Nat := ((compL s xs).getD i 0).toNat
theorem labN_lt (s : Nat) (xs : List Int) (i : Nat) (h : i < s) : labN s xs i < ncL s xs ∧ (compL s xs).getD i 0 = ((labN s xs i : Nat) : Int) := by
  obtain ⟨a, h1, h2⟩ := compL_lab s xs i h
  unfold labN
  rw [h2]; simp; exact h1
/-- the strand at a place, after the first k letters -/
def atK (s : Nat) (xs : List Int) (k j : Nat) : Nat := ((strd s (xs.take k)).getD j 0).toNat
def addV (v : Nat → Nat → Int) (a b : Nat) (z : Int) : Nat → Nat → Int := if a = b then updF v a b (v a b + z) else updF (updF v a b (v a b + z)) b a (v b a + z)
/-- the sums of signs, after the first k letters -/
def lnkV (s : Nat) (xs : List Int) : Nat → Nat → Nat → Int
  | 0 => fun _ _ => 0
  | k + 1 => addV (lnkV s xs k) (labN s xs (atK s xs k (plc (xs.getD k 0)).toNat)) (labN s xs (atK s xs k ((plc (xs.getD k 0)).toNat + 1))) (sgn (xs.getD k 0))
theorem sgn_bd (x : Int) : -1 ≤ sgn x ∧ sgn x ≤ 1 := by unfold sgn; split <;> omega
theorem addV_bd {v : Nat → Nat → Int} {a b : Nat} {z : Int} {K : Nat} (h : ∀ x y, -(K : Int) ≤ v x y ∧ v x y ≤ K) (hz : -1 ≤ z ∧ z ≤ 1) (x y : Nat) : -((K + 1 : Nat) : Int) ≤ addV v a b z x y ∧ addV v a b z x y ≤ ((K + 1 : Nat) : Int) := by
  have h1 := h x y
  have h2 := h a b
  have h3 := h b a
  unfold addV updF
  split
  · simp only; split <;> omega
  · simp only; split
    · omega
    · split <;> omega
theorem lnkV_bd (s : Nat) (xs : List Int) (k : Nat) : ∀ x y, -(k : Int) ≤ lnkV s xs k x y ∧ lnkV s xs k x y ≤ k := by
  induction k with
  | zero => intro x y; simp [lnkV]
  | succ k ih => intro x y; exact addV_bd ih (sgn_bd _) x y
/-- halved where two components meet -/
def halV (v : Nat → Nat → Int) : Nat → Nat → Int := fun x y => if x = y then v x y else (v x y).tdiv 2
/-- halved before the place (p, q) -/
def halP (v : Nat → Nat → Int) (p q : Nat) : Nat → Nat → Int := fun x y => if x < p ∨ (x = p ∧ y < q) then halV v x y else v x y
theorem halP_zero (v : Nat → Nat → Int) : halP v 0 0 = v := by funext x y; unfold halP; rw [if_neg (by omega)]
theorem halP_step {v : Nat → Nat → Int} {p q : Nat} (h : p ≠ q) : updF (halP v p q) p q ((v p q).tdiv 2) = halP v p (q + 1) := by
  funext x y
  unfold updF halP
  by_cases e : x = p ∧ y = q
  · obtain ⟨rfl, rfl⟩ := e
    rw [if_pos ⟨rfl, rfl⟩, if_pos (.inr ⟨rfl, by omega⟩)]
    unfold halV
    rw [if_neg h]
  · rw [if_neg e]
    by_cases g : x < p ∨ (x = p ∧ y < q)
    · rw [if_pos g, if_pos (by omega)]
    · rw [if_neg g, if_neg (by omega)]
theorem halP_same {v : Nat → Nat → Int} {p : Nat} : halP v p p = halP v p (p + 1) := by
  funext x y
  unfold halP
  by_cases e : x = p ∧ y = p
  · obtain ⟨rfl, rfl⟩ := e
    rw [if_neg (by omega), if_pos (.inr ⟨rfl, by omega⟩)]
    unfold halV
    rw [if_pos rfl]
  · by_cases g : x < p ∨ (x = p ∧ y < p)
    · rw [if_pos g, if_pos (by omega)]
    · rw [if_neg g, if_neg (by omega)]
theorem halP_at {v : Nat → Nat → Int} {p q : Nat} : halP v p q p q = v p q := by unfold halP; rw [if_neg (by omega)]
theorem halP_next {n : Nat} {v : Nat → Nat → Int} {p : Nat} : tabF n (halP v p n) = tabF n (halP v (p + 1) 0) := tabF_congr fun x y hx hy => by
  unfold halP
  by_cases g : x < p ∨ (x = p ∧ y < n)
  · rw [if_pos g, if_pos (by omega)]
  · rw [if_neg g, if_neg (by omega)]
theorem halP_all {n : Nat} {v : Nat → Nat → Int} : tabF n (halP v n 0) = tabF n (halV v) := tabF_congr fun x y hx hy => by unfold halP; rw [if_pos (.inl hx)]
/-- what LinkingNumbers hands back -/
def lnkF (s : Int) (xs : List Int) : List (List Int) × Int := if isBr s xs then (tabF (ncL s.toNat xs) (halV (lnkV s.toNat xs xs.length)), 0) else ([], 1)
theorem tot_tabN (n : Nat) (v : Nat → Nat → Int) : tot (tabF n v) = n * n := by
  have : (tabF n v).map List.length = List.replicate n n := by
    unfold tabF
    rw [List.map_map]
    apply List.ext_getElem
    · simp
    · intro i h1 h2; simp
  unfold tot
  rw [this]; simp
theorem Lnk_len (s : Int) (xs : List Int) : tot (lnkF s xs).1 ≤ 1000000 := by
  unfold lnkF
  split
  · rename_i h
    have h1 := (isBr_let h).1
    have h2 := ncL_le s.toNat xs
    show tot (tabF _ _) ≤ _
    rw [tot_tabN]
    have : ncL s.toNat xs * ncL s.toNat xs ≤ 6 * 6 := Nat.mul_le_mul (by omega) (by omega)
    omega
  · simp [tot]
end Go.Proofs.Ythgafpeblpnolaa
