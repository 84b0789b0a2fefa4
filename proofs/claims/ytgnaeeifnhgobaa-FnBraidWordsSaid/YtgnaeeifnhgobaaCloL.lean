/-
  Closures of braids in plain lists: the permutation as a function; conjugates and stabilized braids have as many components; labels are the same along a strand.
  No condition.
-/
import Derived.Test.YtgnaeeifnhgobaaCloP
namespace Go.Proofs.Ytgnaeeifnhgobaa
set_option linter.unusedVariables false
set_option linter.unusedSimpArgs false
set_option maxRecDepth 100000

/-! ### the permutation as a function -/
def kpl (x : Int) : Nat := (plc x).toNat
/-- where the strand that begins at v ends -/
def rhoN (xs : List Int) (v : Nat) : Nat := xs.foldl (fun v x => sig (kpl x) v) v
/-- the strand that is at the place j behind the letters -/
def tauN (xs : List Int) (j : Nat) : Nat := xs.foldr (fun x j => sig (kpl x) j) j
def LetS (s : Nat) (xs : List Int) : Prop := ∀ x ∈ xs, kpl x + 1 < s
theorem LetS.of {s : Nat} {xs : List Int} (h : isBr s xs = true) : LetS s xs := fun x hx => by
  have := plc_let ((isBr_let h).2.2 x hx)
  unfold kpl; omega
theorem LetS.plc {s : Nat} {xs : List Int} (h : isBr s xs = true) : ∀ x ∈ xs, 0 ≤ plc x ∧ plc x + 1 < s := fun x hx => plc_let ((isBr_let h).2.2 x hx)
theorem rho_app (xs ys : List Int) (v : Nat) : rhoN (xs ++ ys) v = rhoN ys (rhoN xs v) := by simp [rhoN, List.foldl_append]
theorem tau_app (xs ys : List Int) (j : Nat) : tauN (xs ++ ys) j = tauN xs (tauN ys j) := by simp [tauN, List.foldr_append]
theorem tau_rho (xs : List Int) : ∀ v, tauN xs (rhoN xs v) = v ∧ rhoN xs (tauN xs v) = v := by
  induction xs with
  | nil => intro v; exact ⟨rfl, rfl⟩
  | cons x xs ih =>
    intro v
    refine ⟨?_, ?_⟩
    · show sig (kpl x) (tauN xs (rhoN xs (sig (kpl x) v))) = v
      rw [(ih _).1, sig_sig]
    · show rhoN xs (sig (kpl x) (sig (kpl x) (tauN xs v))) = v
      rw [sig_sig, (ih _).2]
theorem rho_lt {s : Nat} {xs : List Int} (h : LetS s xs) : ∀ v, v < s → rhoN xs v < s := by
  induction xs with
  | nil => intro v hv; exact hv
  | cons x xs ih => intro v hv; exact ih (fun y hy => h y (List.mem_cons_of_mem _ hy)) _ (sig_lt _ _ _ (h x List.mem_cons_self) hv)
theorem tau_lt {s : Nat} {xs : List Int} (h : LetS s xs) : ∀ v, v < s → tauN xs v < s := by
  induction xs with
  | nil => intro v hv; exact hv
  | cons x xs ih => intro v hv; exact sig_lt _ _ _ (h x List.mem_cons_self) (ih (fun y hy => h y (List.mem_cons_of_mem _ hy)) _ hv)

theorem swp_IsPf {n k : Nat} {p : List Int} {f g : Nat → Nat} (h : IsPf n p f g) (hk : k + 1 < n) : IsPf n (swp p k) (fun i => f (sig k i)) (fun i => sig k (g i)) := by
  obtain ⟨hl, h1, h2⟩ := h
  refine ⟨by simp [swp, hl], fun i hi => ?_, fun i hi => ?_⟩
  · have hs := sig_lt k i n hk hi
    refine ⟨(h1 _ hs).1, sig_lt k _ n hk (h1 i hi).2.1, ?_, ?_⟩
    · show f (sig k (sig k (g i))) = i
      rw [sig_sig]; exact (h1 i hi).2.2.1
    · show sig k (g (f (sig k i))) = i
      rw [(h1 _ hs).2.2.2, sig_sig]
  · rw [swp_get p k i (by omega) (by omega)]
    exact h2 _ (sig_lt k i n hk hi)
theorem strd_pf (s : Nat) (xs : List Int) (h : LetS s xs) : IsPf s (strd s xs) (tauN xs) (rhoN xs) := by
  have : ∀ (ys : List Int) (p : List Int) (f g : Nat → Nat), LetS s ys → IsPf s p f g → IsPf s (ys.foldl (fun a x => swp a (plc x).toNat) p) (fun j => f (tauN ys j)) (fun v => rhoN ys (g v)) := by
    intro ys
    induction ys with
    | nil => intro p f g _ hp; exact hp
    | cons x ys ih =>
      intro p f g hx hp
      exact ih _ _ _ (fun y hy => hx y (List.mem_cons_of_mem _ hy)) (swp_IsPf hp (hx x List.mem_cons_self))
  exact this xs _ id id h ⟨unitL_len s, fun i h => ⟨h, h, rfl, rfl⟩, fun i h => unitL_get s i h⟩
theorem brP_get (s : Nat) (xs : List Int) (h : LetS s xs) (i : Nat) (hi : i < s) : (brP s xs).getD i 0 = (rhoN xs i : Int) := by
  have hp := strd_pf s xs h
  have := backK_get s _ _ _ hp s (Nat.le_refl _) i hi
  unfold brP backF
  rw [hp.1, this, if_pos (rho_lt h i hi)]
def brQ (s : Nat) (xs : List Int) : List Nat := (List.range s).map (rhoN xs)
theorem brQ_len (s : Nat) (xs : List Int) : (brQ s xs).length = s := by simp [brQ]
theorem brQ_get (s : Nat) (xs : List Int) (i : Nat) (hi : i < s) : (brQ s xs).getD i 0 = rhoN xs i := by simp [brQ, List.getD_eq_getElem?_getD, hi]
theorem compL_q (s : Nat) (xs : List Int) (h : LetS s xs) : compL s xs = labQ (brQ s xs) := by
  unfold compL labQ
  rw [brQ_len]
  congr 1
  funext i
  by_cases hi : i < s
  · rw [brP_get s xs h i hi, brQ_get s xs i hi]; simp
  · have h1 : (brP s xs).length = s := by unfold brP; rw [backF_len]; exact (strd_pf s xs h).1
    rw [List.getD_eq_getElem?_getD, List.getElem?_eq_none (by omega), List.getD_eq_getElem?_getD, List.getElem?_eq_none (by rw [brQ_len]; omega)]
    rfl
theorem rho_inj {xs : List Int} {u v : Nat} (h : rhoN xs u = rhoN xs v) : u = v := by rw [← (tau_rho xs u).1, ← (tau_rho xs v).1, h]
theorem brQ_ok (s : Nat) (xs : List Int) (h : LetS s xs) : (∀ x ∈ brQ s xs, x < s) ∧ (brQ s xs).Nodup := by
  refine ⟨fun x hx => ?_, ?_⟩
  · obtain ⟨i, hi, rfl⟩ := List.mem_map.1 hx
    exact rho_lt h i (List.mem_range.1 hi)
  · unfold brQ
    rw [List.nodup_iff_pairwise_ne, List.pairwise_map]
    exact (List.nodup_iff_pairwise_ne.1 List.nodup_range).imp fun hne he => hne (rho_inj he)

/-! ### the finite checks, used -/
theorem chk_use (s : Nat) (xs : List Int) (h1 : 2 ≤ s) (h2 : s ≤ 6) (h : LetS s xs) : chkI (brQ s xs) = true ∧ chkC (brQ s xs) = true := by
  obtain ⟨h3, h4⟩ := brQ_ok s xs h
  have := allL_ok s [] (chk_all ⟨s, by omega⟩ h1) (brQ s xs) (brQ_len s xs) h3 (by simpa using h4)
  simpa using this
theorem chk_use_st (s : Nat) (xs : List Int) (h1 : 2 ≤ s) (h2 : s ≤ 5) (h : LetS s xs) : chkS (brQ s xs) = true := by
  obtain ⟨h3, h4⟩ := brQ_ok s xs h
  exact allL_ok s [] (chk_st ⟨s, by omega⟩ h1) (brQ s xs) (brQ_len s xs) h3 (by simpa using h4)
/-- labels are the same along a strand -/
theorem lab_rho (s : Nat) (xs : List Int) (h1 : 2 ≤ s) (h2 : s ≤ 6) (h : LetS s xs) (i : Nat) (hi : i < s) : (compL s xs).getD (rhoN xs i) 0 = (compL s xs).getD i 0 := by
  have := (chk_use s xs h1 h2 h).1
  unfold chkI at this
  have := List.all_eq_true.1 this i (List.mem_range.2 (by rw [brQ_len]; exact hi))
  rw [brQ_get s xs i hi, beq_iff_eq, ← compL_q s xs h] at this
  exact this
/-- as many components as the conjugate by a letter -/
theorem num_conj (s : Nat) (xs : List Int) (g : Int) (h1 : 2 ≤ s) (h2 : s ≤ 6) (h : LetS s xs) (hg : kpl g + 1 < s) (hg' : kpl (-g) = kpl g) : grtL (compL s ([g] ++ xs ++ [-g])) = grtL (compL s xs) := by
  have hl : LetS s ([g] ++ xs ++ [-g]) := fun x hx => by
    simp at hx
    rcases hx with rfl | hx | rfl
    · exact hg
    · exact h x hx
    · rw [hg']; exact hg
  have := (chk_use s xs h1 h2 h).2
  unfold chkC at this
  have := List.all_eq_true.1 this (kpl g) (List.mem_range.2 (by rw [brQ_len]; omega))
  rw [beq_iff_eq] at this
  have e : brQ s ([g] ++ xs ++ [-g]) = cjQ (kpl g) (brQ s xs) := by
    unfold cjQ
    rw [brQ_len]
    show (List.range s).map _ = _
    apply List.map_congr_left
    intro i hi
    rw [brQ_get s xs _ (sig_lt _ _ _ hg (List.mem_range.1 hi)), rho_app, rho_app]
    show sig (kpl (-g)) (rhoN xs (sig (kpl g) i)) = _
    rw [hg']
  rw [compL_q _ _ hl, compL_q _ _ h, e]
  exact this
theorem sig_fix {k j : Nat} (h : k + 1 < j) : sig k j = j := by unfold sig; rw [if_neg (by omega), if_neg (by omega)]
theorem rho_fix {s : Nat} {xs : List Int} (h : LetS s xs) : rhoN xs s = s := by
  induction xs with
  | nil => rfl
  | cons x xs ih =>
    show rhoN xs (sig (kpl x) s) = s
    rw [sig_fix (h x List.mem_cons_self)]
    exact ih (fun y hy => h y (List.mem_cons_of_mem _ hy))
/-- as many components as the stabilized braid -/
theorem num_stab (s : Nat) (xs : List Int) (g : Int) (h1 : 2 ≤ s) (h2 : s ≤ 5) (h : LetS s xs) (hg : kpl g + 1 = s) : grtL (compL (s + 1) (xs ++ [g])) = grtL (compL s xs) := by
  have hl : LetS (s + 1) (xs ++ [g]) := fun x hx => by
    rcases List.mem_append.1 hx with hx | hx
    · have := h x hx; omega
    · simp at hx; subst hx; omega
  have := chk_use_st s xs h1 h2 h
  unfold chkS at this
  rw [beq_iff_eq] at this
  have hk : kpl g = s - 1 := by omega
  have e : brQ (s + 1) (xs ++ [g]) = stQ (brQ s xs) := by
    unfold stQ
    rw [brQ_len]
    show (List.range (s + 1)).map _ = _
    rw [List.range_succ, List.map_append]
    congr 1
    · unfold brQ
      rw [List.map_map]
      apply List.map_congr_left
      intro i hi
      have hr := rho_lt h i (List.mem_range.1 hi)
      rw [rho_app]
      show sig (kpl g) (rhoN xs i) = _
      show _ = if rhoN xs i + 1 = s then s else rhoN xs i
      unfold sig
      rw [hk]
      by_cases e1 : rhoN xs i = s - 1
      · rw [if_pos e1, if_pos (by omega)]; omega
      · rw [if_neg e1, if_neg (by omega), if_neg (by omega)]
    · show [rhoN (xs ++ [g]) s] = _
      rw [rho_app, rho_fix h]
      show [sig (kpl g) s] = _
      unfold sig
      rw [hk, if_neg (by omega), if_pos (by omega)]
  rw [compL_q _ _ hl, compL_q _ _ h, e]
  exact this
end Go.Proofs.Ytgnaeeifnhgobaa
