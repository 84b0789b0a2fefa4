/-
  Walks and plain laws of this seat, some texts in one.
  No condition but bounds on lengths.
-/
import Derived.Test.YtdkpalllfekiiaaGreatBase4
import Derived.Test.YtdkpalllfekiiaaGreatBase2
import Derived.Test.YtdkpalllfekiiaaGreatBase
namespace Go.Proofs.YtdkpalllfekiiaaGreat
set_option linter.unusedVariables false
set_option linter.unusedSimpArgs false
set_option maxRecDepth 100000

/-! ### what holds of each list of n numbers below n without a double one -/
def allL (n : Nat) (P : List Nat → Bool) : Nat → List Nat → Bool
  | 0, l => P l
  | m + 1, l => (List.range n).all fun x => l.contains x || allL n P m (l ++ [x])
theorem allL_ok {n : Nat} {P : List Nat → Bool} : ∀ (m : Nat) (l : List Nat), allL n P m l = true → ∀ r : List Nat, r.length = m → (∀ x ∈ r, x < n) → (l ++ r).Nodup → P (l ++ r) = true := by
  intro m
  induction m with
  | zero => intro l h r hr _ _; rw [List.eq_nil_of_length_eq_zero hr, List.append_nil]; exact h
  | succ m ih =>
    intro l h r hr hx hn
    match r, hr with
    | x :: r, hr =>
      unfold allL at h
      have h1 := List.all_eq_true.1 h x (List.mem_range.2 (hx x List.mem_cons_self))
      have hc : l.contains x = false := by
        rw [List.nodup_append] at hn
        rw [Bool.eq_false_iff]
        intro hc
        exact hn.2.2 x (List.contains_iff_mem.1 hc) x List.mem_cons_self rfl
      rw [hc, Bool.false_or] at h1
      have e : l ++ x :: r = (l ++ [x]) ++ r := by simp
      rw [e] at hn ⊢
      exact ih (l ++ [x]) h1 r (by simpa using hr) (fun y hy => hx y (List.mem_cons_of_mem _ hy)) hn

/-! ### components of a permutation, as a list -/
def labQ (q : List Nat) : List Int := labF (fun i => q.getD i 0) q.length
def numQ (q : List Nat) : Int := grtL (labQ q)
def cjQ (k : Nat) (q : List Nat) : List Nat := (List.range q.length).map fun i => sig k (q.getD (sig k i) 0)
def stQ (q : List Nat) : List Nat := q.map (fun x => if x + 1 = q.length then q.length else x) ++ [q.length - 1]
def chkI (q : List Nat) : Bool := (fun L : List Int => (List.range q.length).all fun i => L.getD (q.getD i 0) 0 == L.getD i 0) (labQ q)
def chkC (q : List Nat) : Bool := (fun m : Int => (List.range (q.length - 1)).all fun k => numQ (cjQ k q) == m) (numQ q)
def chkS (q : List Nat) : Bool := numQ (stQ q) == numQ q
set_option maxHeartbeats 4000000 in
theorem chk_all : ∀ n : Fin 7, 2 ≤ n.1 → allL n.1 (fun q => chkI q && chkC q) n.1 [] = true := by decide +kernel
set_option maxHeartbeats 4000000 in
theorem chk_st : ∀ n : Fin 6, 2 ≤ n.1 → allL n.1 chkS n.1 [] = true := by decide +kernel
end Go.Proofs.YtdkpalllfekiiaaGreat

namespace Go.Proofs.YtdkpalllfekiiaaGreat
set_option linter.unusedVariables false
set_option linter.unusedSimpArgs false
set_option maxRecDepth 100000

/-! ### the permutation as a function -/
def kpl (x : Int) : Nat := (plc x).toNat
/-- where the strand that begins at v ends -/
def rhoN (xs : List Int) (v : Nat) : Nat := xs.foldl (fun v x => sig (kpl x) v) v
/-- the strand that is at the place j behind the letters -/
def tauN (xs : List Int) (j : Nat) : Nat := xs.foldr (fun x j => sig (kpl x) j) j
def LetS (s : Nat) (xs : List Int) : Prop := ∀ x ∈ xs, kpl x + 1 < s
theorem LetS.of {s : Nat} {xs : List Int} (h : isBr s xs = true) : LetS s xs := fun x hx => by
  have := plc_let ((isBr_let h).2.2 x hx)
  unfold kpl; omega
theorem LetS.plc {s : Nat} {xs : List Int} (h : isBr s xs = true) : ∀ x ∈ xs, 0 ≤ plc x ∧ plc x + 1 < s := fun x hx => plc_let ((isBr_let h).2.2 x hx)
theorem rho_app (xs ys : List Int) (v : Nat) : rhoN (xs ++ ys) v = rhoN ys (rhoN xs v) := by simp [rhoN, List.foldl_append]
theorem tau_app (xs ys : List Int) (j : Nat) : tauN (xs ++ ys) j = tauN xs (tauN ys j) := by simp [tauN, List.foldr_append]
theorem tau_rho (xs : List Int) : ∀ v, tauN xs (rhoN xs v) = v ∧ rhoN xs (tauN xs v) = v := by
  induction xs with
  | nil => intro v; exact ⟨rfl, rfl⟩
  | cons x xs ih =>
    intro v
    refine ⟨?_, ?_⟩
    · show sig (kpl x) (tauN xs (rhoN xs (sig (kpl x) v))) = v
      rw [(ih _).1, sig_sig]
    · show rhoN xs (sig (kpl x) (sig (kpl x) (tauN xs v))) = v
      rw [sig_sig, (ih _).2]
theorem rho_lt {s : Nat} {xs : List Int} (h : LetS s xs) : ∀ v, v < s → rhoN xs v < s := by
  induction xs with
  | nil => intro v hv; exact hv
  | cons x xs ih => intro v hv; exact ih (fun y hy => h y (List.mem_cons_of_mem _ hy)) _ (sig_lt _ _ _ (h x List.mem_cons_self) hv)
theorem tauN_lt {s : Nat} {xs : List Int} (h : LetS s xs) : ∀ v, v < s → tauN xs v < s := by
  induction xs with
  | nil => intro v hv; exact hv
  | cons x xs ih => intro v hv; exact sig_lt _ _ _ (h x List.mem_cons_self) (ih (fun y hy => h y (List.mem_cons_of_mem _ hy)) _ hv)

theorem swp_IsPf {n k : Nat} {p : List Int} {f g : Nat → Nat} (h : IsPf n p f g) (hk : k + 1 < n) : IsPf n (swp p k) (fun i => f (sig k i)) (fun i => sig k (g i)) := by
  obtain ⟨hl, h1, h2⟩ := h
  refine ⟨by simp [swp, hl], fun i hi => ?_, fun i hi => ?_⟩
  · have hs := sig_lt k i n hk hi
    refine ⟨(h1 _ hs).1, sig_lt k _ n hk (h1 i hi).2.1, ?_, ?_⟩
    · show f (sig k (sig k (g i))) = i
      rw [sig_sig]; exact (h1 i hi).2.2.1
    · show sig k (g (f (sig k i))) = i
      rw [(h1 _ hs).2.2.2, sig_sig]
  · rw [swp_get p k i (by omega) (by omega)]
    exact h2 _ (sig_lt k i n hk hi)
theorem strd_pf (s : Nat) (xs : List Int) (h : LetS s xs) : IsPf s (strd s xs) (tauN xs) (rhoN xs) := by
  have : ∀ (ys : List Int) (p : List Int) (f g : Nat → Nat), LetS s ys → IsPf s p f g → IsPf s (ys.foldl (fun a x => swp a (plc x).toNat) p) (fun j => f (tauN ys j)) (fun v => rhoN ys (g v)) := by
    intro ys
    induction ys with
    | nil => intro p f g _ hp; exact hp
    | cons x ys ih =>
      intro p f g hx hp
      exact ih _ _ _ (fun y hy => hx y (List.mem_cons_of_mem _ hy)) (swp_IsPf hp (hx x List.mem_cons_self))
  exact this xs _ id id h ⟨unitL_len s, fun i h => ⟨h, h, rfl, rfl⟩, fun i h => unitL_get s i h⟩
theorem brP_get (s : Nat) (xs : List Int) (h : LetS s xs) (i : Nat) (hi : i < s) : (brP s xs).getD i 0 = (rhoN xs i : Int) := by
  have hp := strd_pf s xs h
  have := backK_get s _ _ _ hp s (Nat.le_refl _) i hi
  unfold brP backF
  rw [hp.1, this, if_pos (rho_lt h i hi)]
def brQ (s : Nat) (xs : List Int) : List Nat := (List.range s).map (rhoN xs)
theorem brQ_len (s : Nat) (xs : List Int) : (brQ s xs).length = s := by simp [brQ]
theorem brQ_get (s : Nat) (xs : List Int) (i : Nat) (hi : i < s) : (brQ s xs).getD i 0 = rhoN xs i := by simp [brQ, List.getD_eq_getElem?_getD, hi]
theorem compL_q (s : Nat) (xs : List Int) (h : LetS s xs) : compL s xs = labQ (brQ s xs) := by
  unfold compL labQ
  rw [brQ_len]
  congr 1
  funext i
  by_cases hi : i < s
  · rw [brP_get s xs h i hi, brQ_get s xs i hi]; simp
  · have h1 : (brP s xs).length = s := by unfold brP; rw [backF_len]; exact (strd_pf s xs h).1
    rw [List.getD_eq_getElem?_getD, List.getElem?_eq_none (by omega), List.getD_eq_getElem?_getD, List.getElem?_eq_none (by rw [brQ_len]; omega)]
    rfl
theorem rho_inj {xs : List Int} {u v : Nat} (h : rhoN xs u = rhoN xs v) : u = v := by rw [← (tau_rho xs u).1, ← (tau_rho xs v).1, h]
theorem brQ_ok (s : Nat) (xs : List Int) (h : LetS s xs) : (∀ x ∈ brQ s xs, x < s) ∧ (brQ s xs).Nodup := by
  refine ⟨fun x hx => ?_, ?_⟩
  · obtain ⟨i, hi, rfl⟩ := List.mem_map.1 hx
    exact rho_lt h i (List.mem_range.1 hi)
  · unfold brQ
    rw [List.nodup_iff_pairwise_ne, List.pairwise_map]
    exact (List.nodup_iff_pairwise_ne.1 List.nodup_range).imp fun hne he => hne (rho_inj he)

/-! ### the finite checks, used -/
theorem chk_use (s : Nat) (xs : List Int) (h1 : 2 ≤ s) (h2 : s ≤ 6) (h : LetS s xs) : chkI (brQ s xs) = true ∧ chkC (brQ s xs) = true := by
  obtain ⟨h3, h4⟩ := brQ_ok s xs h
  have := allL_ok s [] (chk_all ⟨s, by omega⟩ h1) (brQ s xs) (brQ_len s xs) h3 (by simpa using h4)
  simpa using this
theorem chk_use_st (s : Nat) (xs : List Int) (h1 : 2 ≤ s) (h2 : s ≤ 5) (h : LetS s xs) : chkS (brQ s xs) = true := by
  obtain ⟨h3, h4⟩ := brQ_ok s xs h
  exact allL_ok s [] (chk_st ⟨s, by omega⟩ h1) (brQ s xs) (brQ_len s xs) h3 (by simpa using h4)
/-- labels are the same along a strand -/
theorem lab_rho (s : Nat) (xs : List Int) (h1 : 2 ≤ s) (h2 : s ≤ 6) (h : LetS s xs) (i : Nat) (hi : i < s) : (compL s xs).getD (rhoN xs i) 0 = (compL s xs).getD i 0 := by
  have := (chk_use s xs h1 h2 h).1
  unfold chkI at this
  have := List.all_eq_true.1 this i (List.mem_range.2 (by rw [brQ_len]; exact hi))
  rw [brQ_get s xs i hi, beq_iff_eq, ← compL_q s xs h] at this
  exact this
/-- as many components as the conjugate by a letter -/
theorem num_conj (s : Nat) (xs : List Int) (g : Int) (h1 : 2 ≤ s) (h2 : s ≤ 6) (h : LetS s xs) (hg : kpl g + 1 < s) (hg' : kpl (-g) = kpl g) : grtL (compL s ([g] ++ xs ++ [-g])) = grtL (compL s xs) := by
  have hl : LetS s ([g] ++ xs ++ [-g]) := fun x hx => by
    simp at hx
    rcases hx with rfl | hx | rfl
    · exact hg
    · exact h x hx
    · rw [hg']; exact hg
  have := (chk_use s xs h1 h2 h).2
  unfold chkC at this
  have := List.all_eq_true.1 this (kpl g) (List.mem_range.2 (by rw [brQ_len]; omega))
  rw [beq_iff_eq] at this
  have e : brQ s ([g] ++ xs ++ [-g]) = cjQ (kpl g) (brQ s xs) := by
    unfold cjQ
    rw [brQ_len]
    show (List.range s).map _ = _
    apply List.map_congr_left
    intro i hi
    rw [brQ_get s xs _ (sig_lt _ _ _ hg (List.mem_range.1 hi)), rho_app, rho_app]
    show sig (kpl (-g)) (rhoN xs (sig (kpl g) i)) = _
    rw [hg']
  rw [compL_q _ _ hl, compL_q _ _ h, e]
  exact this
theorem sig_fix {k j : Nat} (h : k + 1 < j) : sig k j = j := by unfold sig; rw [if_neg (by omega), if_neg (by omega)]
theorem rho_fix {s : Nat} {xs : List Int} (h : LetS s xs) : rhoN xs s = s := by
  induction xs with
  | nil => rfl
  | cons x xs ih =>
    show rhoN xs (sig (kpl x) s) = s
    rw [sig_fix (h x List.mem_cons_self)]
    exact ih (fun y hy => h y (List.mem_cons_of_mem _ hy))
/-- as many components as the stabilized braid -/
theorem num_stab (s : Nat) (xs : List Int) (g : Int) (h1 : 2 ≤ s) (h2 : s ≤ 5) (h : LetS s xs) (hg : kpl g + 1 = s) : grtL (compL (s + 1) (xs ++ [g])) = grtL (compL s xs) := by
  have hl : LetS (s + 1) (xs ++ [g]) := fun x hx => by
    rcases List.mem_append.1 hx with hx | hx
    · have := h x hx; omega
    · simp at hx; subst hx; omega
  have := chk_use_st s xs h1 h2 h
  unfold chkS at this
  rw [beq_iff_eq] at this
  have hk : kpl g = s - 1 := by omega
  have e : brQ (s + 1) (xs ++ [g]) = stQ (brQ s xs) := by
    unfold stQ
    rw [brQ_len]
    show (List.range (s + 1)).map _ = _
    rw [List.range_succ, List.map_append]
    congr 1
    · unfold brQ
      rw [List.map_map]
      apply List.map_congr_left
      intro i hi
      have hr := rho_lt h i (List.mem_range.1 hi)
      rw [rho_app]
      show sig (kpl g) (rhoN xs i) = _
      show _ = if rhoN xs i + 1 = s then s else rhoN xs i
      unfold sig
      rw [hk]
      by_cases e1 : rhoN xs i = s - 1
      · rw [if_pos e1, if_pos (by omega)]; omega
      · rw [if_neg e1, if_neg (by omega), if_neg (by omega)]
    · show [rhoN (xs ++ [g]) s] = _
      rw [rho_app, rho_fix h]
      show [sig (kpl g) s] = _
      unfold sig
      rw [hk, if_neg (by omega), if_pos (by omega)]
  rw [compL_q _ _ hl, compL_q _ _ h, e]
  exact this
end Go.Proofs.YtdkpalllfekiiaaGreat

namespace Go.Proofs.YtdkpalllfekiiaaGreat
set_option linter.unusedVariables false
set_option linter.unusedSimpArgs false
set_option maxRecDepth 100000
open Go.RowKit

/-! ### sums -/
def sumI : Nat → (Nat → Int) → Int
  | 0, _ => 0
  | n + 1, f => sumI n f + f n
theorem sumI_congr {n : Nat} {f g : Nat → Int} (h : ∀ i, i < n → f i = g i) : sumI n f = sumI n g := by
  induction n with
  | zero => rfl
  | succ n ih => show sumI n f + f n = sumI n g + g n; rw [ih (fun i hi => h i (by omega)), h n (by omega)]
theorem sumI_add (n : Nat) (f g : Nat → Int) : sumI n (fun i => f i + g i) = sumI n f + sumI n g := by
  induction n with
  | zero => rfl
  | succ n ih => show sumI n _ + (f n + g n) = sumI n f + f n + (sumI n g + g n); rw [ih]; omega
theorem sumI_zero (n : Nat) : sumI n (fun _ => 0) = 0 := by
  induction n with
  | zero => rfl
  | succ n ih => show sumI n _ + 0 = 0; rw [ih]; rfl
theorem sumI_one (n a : Nat) (z : Int) : sumI n (fun i => if i = a then z else 0) = if a < n then z else 0 := by
  induction n with
  | zero => rfl
  | succ n ih =>
    show sumI n _ + (if n = a then z else 0) = _
    rw [ih]
    by_cases h1 : a < n
    · rw [if_pos h1, if_neg (by omega), if_pos (by omega)]; omega
    · by_cases h2 : n = a
      · rw [if_neg h1, if_pos h2, if_pos (by omega)]; omega
      · rw [if_neg h1, if_neg h2, if_neg (by omega)]; rfl
theorem sumI_mul (n : Nat) (f : Nat → Int) : sumI n (fun i => 2 * f i) = 2 * sumI n f := by
  induction n with
  | zero => rfl
  | succ n ih => show sumI n _ + 2 * f n = 2 * (sumI n f + f n); rw [ih]; omega
def sumM (n : Nat) (v : Nat → Nat → Int) : Int := sumI n fun x => sumI n fun y => v x y
theorem sumM_add (n : Nat) (u v : Nat → Nat → Int) : sumM n (fun x y => u x y + v x y) = sumM n u + sumM n v := by
  unfold sumM
  rw [← sumI_add]
  exact sumI_congr fun x _ => sumI_add n _ _
theorem sumM_one (n a b : Nat) (z : Int) (ha : a < n) (hb : b < n) : sumM n (fun x y => if x = a ∧ y = b then z else 0) = z := by
  unfold sumM
  have : ∀ x, x < n → sumI n (fun y => if x = a ∧ y = b then z else 0) = if x = a then z else 0 := by
    intro x _
    by_cases h : x = a
    · rw [if_pos h]
      rw [sumI_congr (g := fun y => if y = b then z else 0) (fun y _ => by simp [h]), sumI_one, if_pos hb]
    · rw [if_neg h, sumI_congr (g := fun _ => 0) (fun y _ => by rw [if_neg (fun hh => h hh.1)]), sumI_zero]
  rw [sumI_congr this, sumI_one, if_pos ha]
/-! ### the sum of all entries, those on the diagonal twice -/
def dbl (v : Nat → Nat → Int) : Nat → Nat → Int := fun x y => if x = y then 2 * v x y else v x y
theorem dbl_addV (v : Nat → Nat → Int) (a b : Nat) (z : Int) (x y : Nat) : dbl (addV v a b z) x y = dbl v x y + ((if x = a ∧ y = b then z else 0) + (if x = b ∧ y = a then z else 0)) := by
  unfold dbl addV updF
  by_cases hab : a = b
  · subst hab
    rw [if_pos rfl]
    by_cases h : x = a ∧ y = a
    · obtain ⟨rfl, rfl⟩ := h; simp; omega
    · simp only [if_neg h]; simp
  · rw [if_neg hab]
    by_cases h1 : x = a ∧ y = b
    · obtain ⟨rfl, rfl⟩ := h1
      have h2 : ¬ (x = y ∧ y = x) := fun h => hab h.1
      simp [h2, hab]
    · by_cases h2 : x = b ∧ y = a
      · obtain ⟨rfl, rfl⟩ := h2
        have h3 : ¬ x = y := fun h => hab h.symm
        simp [h3, h1]
      · simp only [if_neg h1, if_neg h2]; simp
theorem sumM_addV (n : Nat) (v : Nat → Nat → Int) (a b : Nat) (z : Int) (ha : a < n) (hb : b < n) : sumM n (dbl (addV v a b z)) = sumM n (dbl v) + 2 * z := by
  have e : dbl (addV v a b z) = fun x y => dbl v x y + ((if x = a ∧ y = b then z else 0) + (if x = b ∧ y = a then z else 0)) := by funext x y; exact dbl_addV v a b z x y
  rw [e, sumM_add, sumM_add, sumM_one n a b z ha hb, sumM_one n b a z hb ha]; omega
/-- the sum of the signs of the first letters -/
def sgS (xs : List Int) : Int := (xs.map sgn).foldl (· + ·) 0
theorem sgS_take {xs : List Int} {k : Nat} (h : k < xs.length) : sgS (xs.take (k + 1)) = sgS (xs.take k) + sgn xs[k] := by
  unfold sgS
  rw [List.take_succ_eq_append_getElem h, List.map_append, List.foldl_append]; rfl
theorem atK_tau (s : Nat) (xs : List Int) (k j : Nat) (h : LetS s xs) (hj : j < s) : atK s xs k j = tauN (xs.take k) j := by
  have := (strd_pf s (xs.take k) (fun x hx => h x (List.mem_of_mem_take hx))).2.2 j hj
  unfold atK
  rw [this]; simp
theorem LetS.take {s : Nat} {xs : List Int} (h : LetS s xs) (k : Nat) : LetS s (xs.take k) := fun x hx => h x (List.mem_of_mem_take hx)
theorem getD_memL {xs : List Int} {k : Nat} (h : k < xs.length) : xs.getD k 0 ∈ xs := by
  rw [List.getD_eq_getElem?_getD, List.getElem?_eq_getElem h]; exact List.getElem_mem _
theorem sum_dbl (s : Nat) (xs : List Int) (h : LetS s xs) : ∀ k, k ≤ xs.length → sumM (ncL s xs) (dbl (lnkV s xs k)) = 2 * sgS (xs.take k) := by
  intro k
  induction k with
  | zero =>
    intro _
    have e : dbl (lnkV s xs 0) = fun _ _ => 0 := by funext x y; simp [dbl, lnkV]
    rw [e]
    unfold sumM
    rw [sumI_congr (g := fun _ => 0) (fun x _ => sumI_zero _), sumI_zero]
    simp [sgS]
  | succ k ih =>
    intro hk
    have hkk : k < xs.length := by omega
    have hl := h _ (getD_memL hkk)
    show sumM _ (dbl (addV _ _ _ _)) = _
    have t0 := tauN_lt (h.take k) (kpl (xs.getD k 0)) (by omega)
    have t1 := tauN_lt (h.take k) (kpl (xs.getD k 0) + 1) hl
    have b0 : atK s xs k (plc (xs.getD k 0)).toNat < s := by
      have := atK_tau s xs k (kpl (xs.getD k 0)) h (by omega)
      show atK s xs k (kpl (xs.getD k 0)) < s
      rw [this]; exact t0
    have b1 : atK s xs k ((plc (xs.getD k 0)).toNat + 1) < s := by
      have := atK_tau s xs k (kpl (xs.getD k 0) + 1) h hl
      show atK s xs k (kpl (xs.getD k 0) + 1) < s
      rw [this]; exact t1
    rw [sumM_addV _ _ _ _ _ (labN_lt s xs _ b0).1 (labN_lt s xs _ b1).1, ih (by omega), sgS_take hkk]
    have e : xs.getD k 0 = xs[k] := by rw [List.getD_eq_getElem?_getD, List.getElem?_eq_getElem hkk]; rfl
    rw [e]; omega

/-! ### letters between two components are an even number -/
def invN (x y : Nat) : List Nat → Nat
  | [] => 0
  | a :: l => (if a = x then l.count y else 0) + invN x y l
theorem invN_app (x y : Nat) (A C : List Nat) : invN x y (A ++ C) = invN x y A + A.count x * C.count y + invN x y C := by
  induction A with
  | nil => simp [invN]
  | cons a A ih =>
    show (if a = x then (A ++ C).count y else 0) + invN x y (A ++ C) = (if a = x then A.count y else 0) + invN x y A + (a :: A).count x * C.count y + invN x y C
    rw [ih, List.count_append]
    by_cases h : a = x
    · subst h; rw [if_pos rfl, if_pos rfl, List.count_cons_self, Nat.add_mul]; omega
    · rw [if_neg h, if_neg h, List.count_cons_of_ne h]; omega
theorem invN_swap (x y : Nat) (hxy : x ≠ y) (A B : List Nat) (a b : Nat) :
    (invN x y (A ++ b :: a :: B) + invN x y (A ++ a :: b :: B)) % 2 = if (x = a ∧ y = b) ∨ (x = b ∧ y = a) then 1 else 0 := by
  have e : (b :: a :: B).count y = (a :: b :: B).count y := by simp only [List.count_cons]; omega
  rw [invN_app, invN_app, e]
  have e1 : invN x y (b :: a :: B) = (if b = x then (a :: B).count y else 0) + ((if a = x then B.count y else 0) + invN x y B) := rfl
  have e2 : invN x y (a :: b :: B) = (if a = x then (b :: B).count y else 0) + ((if b = x then B.count y else 0) + invN x y B) := rfl
  rw [e1, e2]
  simp only [List.count_cons, beq_iff_eq]
  by_cases h1 : a = x
  · subst h1
    have hne : ¬ a = y := hxy
    by_cases h2 : b = a
    · subst h2
      have : ¬ y = b := fun h => hxy h.symm
      simp [hne, this]; omega
    · by_cases h3 : b = y
      · subst h3; simp [h2, hne]; omega
      · have h4 : ¬ y = b := fun h => h3 h.symm
        have h5 : ¬ a = b := fun h => h2 h.symm
        simp [h2, h3, hne, h4, h5]; omega
  · by_cases h2 : b = x
    · subst h2
      have hne : ¬ b = y := hxy
      by_cases h3 : a = y
      · subst h3; simp [h1, hne]; omega
      · have h4 : ¬ y = a := fun h => h3 h.symm
        have h5 : ¬ b = a := fun h => h1 h.symm
        simp [h1, h3, hne, h4, h5]; omega
    · have h4 : ¬ x = a := fun h => h1 h.symm
      have h5 : ¬ x = b := fun h => h2 h.symm
      simp [h1, h2, h4, h5]; omega
/-- the labels at the places, after the first k letters -/
def arrK (s : Nat) (xs : List Int) (k : Nat) : List Nat := (List.range s).map fun j => labN s xs (tauN (xs.take k) j)
theorem swp_split (s j : Nat) (F : Nat → Nat) (hj : j + 1 < s) : ∃ A B : List Nat, (List.range s).map F = A ++ F j :: F (j + 1) :: B ∧ (List.range s).map (fun i => F (sig j i)) = A ++ F (j + 1) :: F j :: B := by
  refine ⟨(List.range j).map F, (List.range (s - (j + 2))).map (fun i => F (j + 2 + i)), ?_, ?_⟩
  · have e : List.range s = List.range j ++ j :: (j + 1) :: (List.range (s - (j + 2))).map (fun i => j + 2 + i) := by
      apply List.ext_getElem
      · simp; omega
      · intro i h1 h2
        simp only [List.getElem_range, List.getElem_append, List.length_range, List.getElem_cons, List.getElem_map]
        split
        · rfl
        · split
          · omega
          · split <;> omega
    rw [e, List.map_append, List.map_cons, List.map_cons, List.map_map]; rfl
  · have e : List.range s = List.range j ++ j :: (j + 1) :: (List.range (s - (j + 2))).map (fun i => j + 2 + i) := by
      apply List.ext_getElem
      · simp; omega
      · intro i h1 h2
        simp only [List.getElem_range, List.getElem_append, List.length_range, List.getElem_cons, List.getElem_map]
        split
        · rfl
        · split
          · omega
          · split <;> omega
    rw [e, List.map_append, List.map_cons, List.map_cons, List.map_map]
    have e1 : (List.range j).map (fun i => F (sig j i)) = (List.range j).map F := List.map_congr_left fun i hi => by
      have := List.mem_range.1 hi
      show F (sig j i) = F i
      unfold sig; rw [if_neg (by omega), if_neg (by omega)]
    have e2 : (List.range (s - (j + 2))).map ((fun i => F (sig j i)) ∘ fun i => j + 2 + i) = (List.range (s - (j + 2))).map (fun i => F (j + 2 + i)) := List.map_congr_left fun i hi => by
      show F (sig j (j + 2 + i)) = _
      unfold sig; rw [if_neg (by omega), if_neg (by omega)]
    have e3 : sig j j = j + 1 := by unfold sig; rw [if_pos rfl]
    have e4 : sig j (j + 1) = j := by unfold sig; rw [if_neg (by omega), if_pos rfl]
    rw [e1, e2, e3, e4]
theorem addV_off (v : Nat → Nat → Int) (a b : Nat) (z : Int) (x y : Nat) (hxy : x ≠ y) : addV v a b z x y = v x y + if (x = a ∧ y = b) ∨ (x = b ∧ y = a) then z else 0 := by
  have h := dbl_addV v a b z x y
  unfold dbl at h
  rw [if_neg hxy, if_neg hxy] at h
  rw [h]
  by_cases h1 : x = a ∧ y = b
  · have h2 : ¬ (x = b ∧ y = a) := fun h2 => hxy (by rw [h1.1, h2.2])
    rw [if_pos h1, if_neg h2, if_pos (.inl h1)]; omega
  · by_cases h2 : x = b ∧ y = a
    · rw [if_neg h1, if_pos h2, if_pos (.inr h2)]; omega
    · rw [if_neg h1, if_neg h2, if_neg (by rintro (h | h); exact h1 h; exact h2 h)]; rfl
theorem par (s : Nat) (xs : List Int) (h : LetS s xs) (x y : Nat) (hxy : x ≠ y) : ∀ k, k ≤ xs.length → (lnkV s xs k x y + (invN x y (arrK s xs 0) : Int) + (invN x y (arrK s xs k) : Int)) % 2 = 0 := by
  intro k
  induction k with
  | zero => intro _; show ((0 : Int) + _ + _) % 2 = 0; omega
  | succ k ih =>
    intro hk
    have hkk : k < xs.length := by omega
    have ihk := ih (by omega)
    have e : xs.getD k 0 = xs[k] := by rw [List.getD_eq_getElem?_getD, List.getElem?_eq_getElem hkk]; rfl
    have hl := h _ (getD_memL hkk)
    show (addV _ _ _ _ x y + _ + _) % 2 = 0
    have a0 := atK_tau s xs k (kpl (xs.getD k 0)) h (by omega)
    have a1 := atK_tau s xs k (kpl (xs.getD k 0) + 1) h hl
    show (addV (lnkV s xs k) (labN s xs (atK s xs k (kpl (xs.getD k 0)))) (labN s xs (atK s xs k (kpl (xs.getD k 0) + 1))) (sgn (xs.getD k 0)) x y + _ + _) % 2 = 0
    rw [a0, a1, addV_off _ _ _ _ _ _ hxy]
    obtain ⟨A, B, h1, h2⟩ := swp_split s (kpl (xs.getD k 0)) (fun j => labN s xs (tauN (xs.take k) j)) hl
    have e1 : arrK s xs k = _ := h1
    have e3 : arrK s xs (k + 1) = (List.range s).map (fun i => labN s xs (tauN (xs.take k) (sig (kpl (xs.getD k 0)) i))) := by
      unfold arrK
      apply List.map_congr_left
      intro j _
      rw [List.take_succ_eq_append_getElem hkk, tau_app, e]; rfl
    have e2 := e3.trans h2
    rw [e1] at ihk
    rw [e2]
    have hs := invN_swap x y hxy A B (labN s xs (tauN (xs.take k) (kpl (xs.getD k 0)))) (labN s xs (tauN (xs.take k) (kpl (xs.getD k 0) + 1)))
    have hsg : sgn (xs.getD k 0) = 1 ∨ sgn (xs.getD k 0) = -1 := by unfold sgn; split <;> simp
    generalize labN s xs (tauN (xs.take k) (kpl (xs.getD k 0))) = a at *
    generalize labN s xs (tauN (xs.take k) (kpl (xs.getD k 0) + 1)) = b at *
    generalize invN x y (A ++ b :: a :: B) = I1 at *
    generalize invN x y (A ++ a :: b :: B) = I2 at *
    generalize sgn (xs.getD k 0) = z at *
    split at hs
    · rename_i hc; rw [if_pos hc]; omega
    · rename_i hc; rw [if_neg hc]; omega
theorem even_lnk (s : Nat) (xs : List Int) (h1 : 2 ≤ s) (h2 : s ≤ 6) (h : LetS s xs) (x y : Nat) (hxy : x ≠ y) : lnkV s xs xs.length x y % 2 = 0 := by
  have := par s xs h x y hxy xs.length (Nat.le_refl _)
  have e : arrK s xs xs.length = arrK s xs 0 := by
    unfold arrK
    apply List.map_congr_left
    intro j hj
    have hj := List.mem_range.1 hj
    rw [List.take_length, List.take_zero]
    show labN s xs (tauN xs j) = labN s xs j
    have ht := tauN_lt h j hj
    have hr := lab_rho s xs h1 h2 h (tauN xs j) ht
    rw [(tau_rho xs j).2] at hr
    unfold labN
    rw [hr]
  rw [e] at this
  omega
/-- linking numbers and writhes add up to the sum -/
theorem sum_hal (s : Nat) (xs : List Int) (h1 : 2 ≤ s) (h2 : s ≤ 6) (h : LetS s xs) : sumM (ncL s xs) (halV (lnkV s xs xs.length)) = sgS xs := by
  have hd := sum_dbl s xs h xs.length (Nat.le_refl _)
  rw [List.take_length] at hd
  have e : dbl (lnkV s xs xs.length) = fun x y => 2 * halV (lnkV s xs xs.length) x y := by
    funext x y
    unfold dbl halV
    by_cases hxy : x = y
    · rw [if_pos hxy, if_pos hxy]
    · rw [if_neg hxy, if_neg hxy]
      have := even_lnk s xs h1 h2 h x y hxy
      generalize lnkV s xs xs.length x y = z at *
      obtain ⟨u, rfl⟩ : ∃ u, z = 2 * u := ⟨z / 2, by omega⟩
      rw [Int.mul_tdiv_cancel_left u (by omega)]
  rw [e] at hd
  have e2 : sumM (ncL s xs) (fun x y => 2 * halV (lnkV s xs xs.length) x y) = 2 * sumM (ncL s xs) (halV (lnkV s xs xs.length)) := by
    unfold sumM
    rw [← sumI_mul]
    exact sumI_congr fun x _ => sumI_mul _ _
  rw [e2] at hd
  omega
theorem lnk_sym (s : Nat) (xs : List Int) (k : Nat) : ∀ x y, lnkV s xs k x y = lnkV s xs k y x := by
  induction k with
  | zero => intro x y; rfl
  | succ k ih =>
    intro x y
    show addV _ _ _ _ x y = addV _ _ _ _ y x
    by_cases hxy : x = y
    · rw [hxy]
    · rw [addV_off _ _ _ _ _ _ hxy, addV_off _ _ _ _ _ _ (Ne.symm hxy), ih x y]
      congr 1
      generalize labN s xs _ = a
      generalize labN s xs _ = b
      by_cases h1 : (x = a ∧ y = b) ∨ (x = b ∧ y = a)
      · rw [if_pos h1, if_pos (by rcases h1 with ⟨h, h'⟩ | ⟨h, h'⟩; exact .inr ⟨h', h⟩; exact .inl ⟨h', h⟩)]
      · rw [if_neg h1, if_neg (by rintro (⟨h, h'⟩ | ⟨h, h'⟩); exact h1 (.inr ⟨h', h⟩); exact h1 (.inl ⟨h', h⟩))]
theorem hal_sym (s : Nat) (xs : List Int) (x y : Nat) : halV (lnkV s xs xs.length) x y = halV (lnkV s xs xs.length) y x := by
  unfold halV
  by_cases h : x = y
  · rw [if_pos h, if_pos h.symm, h]
  · rw [if_neg h, if_neg (Ne.symm h), lnk_sym]

/-! ### the mirror -/
theorem plc_negM (x : Int) : plc (-x) = plc x := by unfold plc; split <;> split <;> omega
theorem strd_neg (s : Nat) (xs : List Int) : strd s (negL xs) = strd s xs := by
  unfold strd negL
  rw [List.foldl_map]
  congr 1
  funext a x
  rw [plc_negM]
theorem compL_neg (s : Nat) (xs : List Int) : compL s (negL xs) = compL s xs := by unfold compL brP; rw [strd_neg]
theorem negL_take (xs : List Int) (k : Nat) : (negL xs).take k = negL (xs.take k) := by unfold negL; rw [List.map_take]
theorem addV_neg (v : Nat → Nat → Int) (a b : Nat) (z : Int) : addV (fun x y => -v x y) a b (-z) = fun x y => -addV v a b z x y := by
  funext x y
  unfold addV updF
  by_cases hab : a = b
  · rw [if_pos hab, if_pos hab]
    by_cases h : x = a ∧ y = b
    · simp only [if_pos h]; omega
    · simp only [if_neg h]
  · rw [if_neg hab, if_neg hab]
    by_cases h2 : x = b ∧ y = a
    · simp only [if_pos h2]; omega
    · by_cases h : x = a ∧ y = b
      · simp only [if_neg h2, if_pos h]; omega
      · simp only [if_neg h2, if_neg h]
theorem lnk_neg (s : Nat) (xs : List Int) (h0 : ∀ x ∈ xs, x ≠ 0) : ∀ k, k ≤ xs.length → lnkV s (negL xs) k = fun x y => -lnkV s xs k x y := by
  intro k
  induction k with
  | zero => intro _; funext x y; simp [lnkV]
  | succ k ih =>
    intro hk
    have hkk : k < xs.length := by omega
    have e : (negL xs).getD k 0 = -(xs.getD k 0) := by
      simp [negL, List.getD_eq_getElem?_getD, List.getElem?_eq_getElem hkk]
    have hz := h0 _ (getD_memL hkk)
    have hs : sgn (-(xs.getD k 0)) = -sgn (xs.getD k 0) := by unfold sgn; split <;> split <;> omega
    have hat : ∀ j, atK s (negL xs) k j = atK s xs k j := fun j => by unfold atK; rw [negL_take, strd_neg]
    have hlb : ∀ j, labN s (negL xs) j = labN s xs j := fun j => by unfold labN; rw [compL_neg]
    show addV _ _ _ _ = fun x y => -addV _ _ _ _ x y
    rw [ih (by omega), e, plc_negM, hs, hat, hat, hlb, hlb, addV_neg]
theorem hal_neg (s : Nat) (xs : List Int) (h0 : ∀ x ∈ xs, x ≠ 0) (x y : Nat) : halV (lnkV s (negL xs) (negL xs).length) x y = -halV (lnkV s xs xs.length) x y := by
  rw [negL_len, lnk_neg s xs h0 _ (Nat.le_refl _)]
  unfold halV
  split
  · rfl
  · exact Int.neg_tdiv _ _
theorem ncL_neg (s : Nat) (xs : List Int) : ncL s (negL xs) = ncL s xs := by unfold ncL; rw [compL_neg]
theorem isBr_mkM {s : Int} {xs : List Int} (h : 2 ≤ s ∧ s ≤ 6) (h2 : xs.length ≤ 30) (h3 : ∀ x ∈ xs, x ≠ 0 ∧ 1 - s ≤ x ∧ x ≤ s - 1) : isBr s xs = true := by
  have e1 : wrap64 (1 - s) = 1 - s := IntWalk.wrap64_in _ ⟨by omega, by omega⟩
  have e2 : wrap64 (s - 1) = s - 1 := IntWalk.wrap64_in _ ⟨by omega, by omega⟩
  simp only [isBr, Bool.and_eq_true, decide_eq_true_eq, List.all_eq_true]
  refine ⟨⟨h, h2⟩, fun x hx => ?_⟩
  have := h3 x hx
  simp only [isLet, Bool.and_eq_true, decide_eq_true_eq, e1, e2]
  exact this
theorem isBr_neg (s : Int) (xs : List Int) (h : isBr s xs = true) : isBr s (negL xs) = true := by
  have hl := isBr_let h
  refine isBr_mkM hl.1 (by rw [negL_len]; exact hl.2.1) fun x hx => ?_
  obtain ⟨y, hy, rfl⟩ := List.mem_map.1 hx
  have := hl.2.2 y hy
  omega
end Go.Proofs.YtdkpalllfekiiaaGreat

namespace Go.Proofs.YtdkpalllfekiiaaGreat
set_option linter.unusedVariables false
set_option linter.unusedSimpArgs false
set_option maxRecDepth 100000
open Go.RowKit

theorem sgS_bd (xs : List Int) : ∀ k, k ≤ xs.length → -(k : Int) ≤ sgS (xs.take k) ∧ sgS (xs.take k) ≤ k := by
  intro k
  induction k with
  | zero => intro _; simp [sgS]
  | succ k ih =>
    intro hk
    rw [sgS_take (by omega)]
    have := ih (by omega)
    have h := sgn_bd xs[k]
    omega
set_option maxHeartbeats 4000000 in
theorem impl_Sum_ok (s : Int) (a : Option Addr) (n c : Nat) (xs : List Int) (w : World) (h1 : Row w a n xs) (hm : n ≤ 9223372036854775807) (hb : isBr s xs = true) :
    Calls Tryz.prog 11 #[bAgg s a n c] w (RetI w (sgS xs) 0) := by
  have HB := Lib.hid hb
  have hbr := isBr_let hb
  have HL := Lib.hid h1.len
  have hn30 : n ≤ 30 := by have := h1.len; omega
  clear hb
  have hA := Loc.new w rfl #[.int .i64 s, .slice a n c] 26
  go_enter Tryz.func11, Tryz.ntmps11
  go_wp2_with fail
  refine (isBraid_any _ _ _ _ xs _ (h1.alloc _) hm).mono ?_
  rintro e w1 ⟨rfl, hb1⟩
  rw [HB.out]
  have hB1 : Below w.heap.size w w1 := below_alth (Below.refl _ _) hb1
  have hA1 := hA.below hb1 hA.lt
  have lA1 := hA1.two
  have hr1 := (h1.alloc (.cells #[.int .i64 s, .slice a n c] 26)).below hb1
  go_wp2
  go_loop [4, 6, 13] (fun m _ i => ∃ k : Nat, k ≤ n ∧ i = .int .i64 k ∧ m = .int .i64 (sgS (xs.take k))) (fun _ _ i => n - (intOf i).toNat)
  case atStart => exact ⟨0, Nat.zero_le _, rfl, rfl⟩
  case round =>
    obtain ⟨k, hk, rfl, rfl⟩ := hrel
    by_cases hlt : k < n
    · obtain ⟨b, off, rfl, g1⟩ := hr1.at k hlt
      have hx : k < xs.length := by have := HL.out; omega
      have HT := Lib.hid (sgS_take hx)
      have hbd := sgS_bd xs k (by omega)
      have hs1 := sgn_bd xs[k]
      rw [getD_at hx] at g1
      obtain ⟨hbd1, hbd2⟩ := hbd
      obtain ⟨hs11, hs12⟩ := hs1
      have hsum : IntKind.i64.wrap (sgS (xs.take k) + sgn xs[k]) = sgS (xs.take k) + sgn xs[k] := IntWalk.i64_in _ ⟨by omega, by omega⟩
      go_wp2_with fail
      refine (signOf_any xs[k] _).mono ?_
      rintro e w3 ⟨rfl, rfl⟩
      go_wp2
      go_round
      case rel => exact ⟨k + 1, by omega, by go_num, by rw [HT.out]⟩
      case measure => simp [intOf]; omega
    · obtain rfl : k = n := by omega
      go_wp2
      go_ret2
      have e : xs.take k = xs := List.take_of_length_le (by have := HL.out; omega)
      rw [e]
      exact ⟨rfl, hB1⟩
end Go.Proofs.YtdkpalllfekiiaaGreat
