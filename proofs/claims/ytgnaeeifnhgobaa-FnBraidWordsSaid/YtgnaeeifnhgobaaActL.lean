/-
  The inverse of a pair map, and how braids lead tuples, in plain lists.
  No condition.
-/
import Derived.Test.YtgnaeeifnhgobaaSolC
import Derived.Test.YtgnaeeifnhgobaaBase
namespace Go.Proofs.Ytgnaeeifnhgobaa
set_option linter.unusedVariables false
set_option linter.unusedSimpArgs false

/-- an injection of the numbers less than N into themselves meets each of them -/
theorem inj_surj (N : Nat) : ∀ (f : Nat → Nat), (∀ i, i < N → f i < N) → (∀ i j, i < N → j < N → f i = f j → i = j) → ∀ j, j < N → ∃ i, i < N ∧ f i = j := by
  induction N with
  | zero => intro f _ _ j hj; omega
  | succ N ih =>
    intro f hlt hinj j hj
    by_cases hm : f N = j
    · exact ⟨N, by omega, hm⟩
    · have hne : ∀ i, i < N → f i ≠ f N := fun i hi e => by have := hinj i N (by omega) (by omega) e; omega
      have hNlt := hlt N (by omega)
      obtain ⟨F, hF⟩ : ∃ F : Nat → Nat, ∀ i, F i = if f i = N then f N else f i := ⟨_, fun _ => rfl⟩
      have h1 : ∀ i, i < N → F i < N := by
        intro i hi
        have a := hlt i (by omega)
        have b := hne i hi
        rw [hF]
        by_cases e : f i = N
        · rw [if_pos e]; omega
        · rw [if_neg e]; omega
      have h2 : ∀ i k, i < N → k < N → F i = F k → i = k := by
        intro i k hi hk e
        rw [hF, hF] at e
        have b1 := hne i hi
        have b2 := hne k hk
        by_cases e1 : f i = N
        · by_cases e2 : f k = N
          · exact hinj i k (by omega) (by omega) (by omega)
          · rw [if_pos e1, if_neg e2] at e; omega
        · by_cases e2 : f k = N
          · rw [if_neg e1, if_pos e2] at e; omega
          · rw [if_neg e1, if_neg e2] at e; exact hinj i k (by omega) (by omega) e
      by_cases hjN : j = N
      · subst hjN
        obtain ⟨i, hi, e⟩ := ih F h1 h2 (f j) (by omega)
        rw [hF] at e
        by_cases e1 : f i = j
        · exact ⟨i, by omega, e1⟩
        · rw [if_neg e1] at e; exact absurd e (hne i hi)
      · obtain ⟨i, hi, e⟩ := ih F h1 h2 j (by omega)
        rw [hF] at e
        by_cases e1 : f i = N
        · rw [if_pos e1] at e; exact absurd e hm
        · rw [if_neg e1] at e; exact ⟨i, by omega, e⟩

theorem pair_div {n x y : Nat} (hn : 1 ≤ n) (hy : y < n) : (x * n + y) / n = x := by
  rw [Nat.mul_comm, Nat.mul_add_div (by omega), Nat.div_eq_of_lt hy, Nat.add_zero]
theorem pair_mod {n x y : Nat} (hy : y < n) : (x * n + y) % n = y := by
  rw [Nat.mul_comm, Nat.mul_add_mod, Nat.mod_eq_of_lt hy]
theorem pair_lt {n x y : Nat} (hx : x < n) (hy : y < n) : x * n + y < n * n := by
  have : (x + 1) * n ≤ n * n := Nat.mul_le_mul_right n hx
  have e : (x + 1) * n = x * n + n := by rw [Nat.add_mul]; simp
  omega

/-- the pair that is led to (u, v), as one number -/
def prN (n : Nat) (f g : List (List Int)) (u v : Nat) : Nat := ((List.range (n * n)).find? fun p => decide (tv f (p / n) (p % n) = u) && decide (tv g (p / n) (p % n) = v)).getD 0

theorem coll_inj {n : Nat} {f g : List (List Int)} (hc : collOk n f g = true) {p q : Nat} (hp : p < n * n) (hq : q < n * n) (h1 : tv f (p / n) (p % n) = tv f (q / n) (q % n)) (h2 : tv g (p / n) (p % n) = tv g (q / n) (q % n)) : p = q := by
  have := allN_get (allN_get hc hp) hq
  unfold collAt at this
  by_cases e : p = q
  · exact e
  · simp [e, h1, h2] at this
theorem prN_eq {n : Nat} {f g : List (List Int)} (hn : 1 ≤ n) (hc : collOk n f g = true) {x y u v : Nat} (hx : x < n) (hy : y < n) (h1 : tv f x y = u) (h2 : tv g x y = v) : prN n f g u v = x * n + y := by
  unfold prN
  have hlt := pair_lt hx hy
  have hP : (fun p => decide (tv f (p / n) (p % n) = u) && decide (tv g (p / n) (p % n) = v)) (x * n + y) = true := by
    show (decide (tv f ((x * n + y) / n) ((x * n + y) % n) = u) && decide (tv g ((x * n + y) / n) ((x * n + y) % n) = v)) = true
    rw [pair_div hn hy, pair_mod hy]; simp [h1, h2]
  cases hq : (List.range (n * n)).find? (fun p => decide (tv f (p / n) (p % n) = u) && decide (tv g (p / n) (p % n) = v)) with
  | none => rw [List.find?_eq_none] at hq; exact absurd hP (hq _ (List.mem_range.2 hlt))
  | some q =>
    have h3 := List.find?_some hq
    have h4 := List.mem_range.1 (List.mem_of_find?_eq_some hq)
    rw [Bool.and_eq_true, decide_eq_true_iff, decide_eq_true_iff] at h3
    show q = _
    refine coll_inj hc h4 hlt ?_ ?_
    · rw [pair_div hn hy, pair_mod hy, h1]; exact h3.1
    · rw [pair_div hn hy, pair_mod hy, h2]; exact h3.2
theorem pr_ex {n : Nat} {f g : List (List Int)} (hn : 1 ≤ n) (hf : Sq n f) (hg : Sq n g) (hc : collOk n f g = true) {u v : Nat} (hu : u < n) (hv : v < n) : ∃ x y, x < n ∧ y < n ∧ tv f x y = u ∧ tv g x y = v := by
  obtain ⟨p, hp, e⟩ := inj_surj (n * n) (fun p => tv f (p / n) (p % n) * n + tv g (p / n) (p % n))
    (fun p hp => pair_lt (hf.lt (div_lt_sq hp) (Nat.mod_lt _ hn)) (hg.lt (div_lt_sq hp) (Nat.mod_lt _ hn)))
    (fun p q hp hq e => by
      have bp := hg.lt (div_lt_sq hp) (Nat.mod_lt p hn)
      have bq := hg.lt (div_lt_sq hq) (Nat.mod_lt q hn)
      have e1 := congrArg (· / n) e
      have e2 := congrArg (· % n) e
      simp only [pair_div hn bp, pair_div hn bq, pair_mod bp, pair_mod bq] at e1 e2
      exact coll_inj hc hp hq e1 e2)
    (u * n + v) (pair_lt hu hv)
  have bp := hg.lt (div_lt_sq hp) (Nat.mod_lt p hn)
  have e1 := congrArg (· / n) e
  have e2 := congrArg (· % n) e
  simp only [pair_div hn bp, pair_mod bp, pair_div hn hv, pair_mod hv] at e1 e2
  exact ⟨p / n, p % n, div_lt_sq hp, Nat.mod_lt _ hn, e1, e2⟩

/-- the tables of the inverse -/
def bfT (n : Nat) (f g : List (List Int)) : List (List Int) := tabF n fun u v => ((prN n f g u v / n : Nat) : Int)
def bgT (n : Nat) (f g : List (List Int)) : List (List Int) := tabF n fun u v => ((prN n f g u v % n : Nat) : Int)
theorem tv_tabF (n : Nat) (V : Nat → Nat → Int) {x y : Nat} (hx : x < n) (hy : y < n) : ((tabF n V).getD x []).getD y 0 = V x y := by
  rw [tabF_get n V x hx]
  simp [List.getD_eq_getElem?_getD, List.getElem?_map, hy]
theorem Sq.tab {n : Nat} {V : Nat → Nat → Nat} (h : ∀ x y, x < n → y < n → V x y < n) : Sq n (tabF n fun x y => ((V x y : Nat) : Int)) := by
  refine ⟨tabF_len _ _, fun x hx => ⟨by rw [tabF_get _ _ x hx]; simp, fun y hy => ?_⟩⟩
  unfold tv
  rw [tv_tabF n _ hx hy]
  simp [h x y hx hy]
theorem tv_tab {n : Nat} {V : Nat → Nat → Nat} {x y : Nat} (hx : x < n) (hy : y < n) : tv (tabF n fun x y => ((V x y : Nat) : Int)) x y = V x y := by
  unfold tv; rw [tv_tabF n _ hx hy]; simp
theorem prN_lt {n : Nat} {f g : List (List Int)} (hn : 1 ≤ n) (hf : Sq n f) (hg : Sq n g) (hc : collOk n f g = true) {u v : Nat} (hu : u < n) (hv : v < n) : prN n f g u v < n * n := by
  obtain ⟨x, y, hx, hy, h1, h2⟩ := pr_ex hn hf hg hc hu hv
  rw [prN_eq hn hc hx hy h1 h2]; exact pair_lt hx hy
theorem bf_sq {n : Nat} {f g : List (List Int)} (hn : 1 ≤ n) (hf : Sq n f) (hg : Sq n g) (hc : collOk n f g = true) : Sq n (bfT n f g) := Sq.tab fun u v hu hv => div_lt_sq (prN_lt hn hf hg hc hu hv)
theorem bg_sq {n : Nat} {f g : List (List Int)} (hn : 1 ≤ n) : Sq n (bgT n f g) := Sq.tab fun u v hu hv => Nat.mod_lt _ hn
theorem bf_tv {n : Nat} {f g : List (List Int)} (hn : 1 ≤ n) (hc : collOk n f g = true) {x y u v : Nat} (hx : x < n) (hy : y < n) (hu : u < n) (hv : v < n) (h1 : tv f x y = u) (h2 : tv g x y = v) : tv (bfT n f g) u v = x := by
  unfold bfT; rw [tv_tab hu hv, prN_eq hn hc hx hy h1 h2, pair_div hn hy]
theorem bg_tv {n : Nat} {f g : List (List Int)} (hn : 1 ≤ n) (hc : collOk n f g = true) {x y u v : Nat} (hx : x < n) (hy : y < n) (hu : u < n) (hv : v < n) (h1 : tv f x y = u) (h2 : tv g x y = v) : tv (bgT n f g) u v = y := by
  unfold bgT; rw [tv_tab hu hv, prN_eq hn hc hx hy h1 h2, pair_mod hy]

theorem isSol_coll {f g : List (List Int)} (h : isSol f g = true) : collOk f.length f g = true := by
  unfold isSol at h; rw [Bool.and_eq_true, Bool.and_eq_true] at h; exact h.2.1

/-- the tuple to which a letter leads a tuple -/
def stepL (n : Nat) (f g : List (List Int)) (x : Int) (l : List Int) : List Int := if 0 < x then doF f g (plc x).toNat l else doF (bfT n f g) (bgT n f g) (plc x).toNat l
/-- the tuple to which a word leads a tuple -/
def actL (n : Nat) (f g : List (List Int)) (xs : List Int) (l : List Int) : List Int := xs.foldl (fun l x => stepL n f g x l) l
theorem stepL_len (n : Nat) (f g : List (List Int)) (x : Int) (l : List Int) : (stepL n f g x l).length = l.length := by
  unfold stepL; split <;> exact doF_len _ _ _ _
theorem actL_take (n : Nat) (f g : List (List Int)) (xs : List Int) (l : List Int) (k : Nat) (h : k < xs.length) : actL n f g (xs.take (k + 1)) l = stepL n f g xs[k] (actL n f g (xs.take k) l) := by
  unfold actL; rw [List.take_succ_eq_append_getElem h, List.foldl_append]; rfl
theorem actL_len (n : Nat) (f g : List (List Int)) (xs : List Int) (l : List Int) : (actL n f g xs l).length = l.length := by
  unfold actL
  induction xs generalizing l with
  | nil => rfl
  | cons x r ih => rw [List.foldl_cons, ih, stepL_len]
theorem Less.step {n : Nat} {f g : List (List Int)} {l : List Int} (hn : 1 ≤ n) (hf : Sq n f) (hg : Sq n g) (hc : collOk n f g = true) (h : Less n l) (x : Int) (hx : (plc x).toNat + 1 < l.length) : Less n (stepL n f g x l) := by
  unfold stepL
  split
  · exact h.do_ hf hg _ hx
  · exact h.do_ (bf_sq hn hf hg hc) (bg_sq hn) _ hx
theorem Less.act {n : Nat} {f g : List (List Int)} {l : List Int} (hn : 1 ≤ n) (hf : Sq n f) (hg : Sq n g) (hc : collOk n f g = true) (h : Less n l) (xs : List Int) (hx : ∀ x ∈ xs, (plc x).toNat + 1 < l.length) : Less n (actL n f g xs l) := by
  unfold actL
  induction xs generalizing l with
  | nil => exact h
  | cons x r ih =>
    rw [List.foldl_cons]
    exact ih (h.step hn hf hg hc x (hx x (by simp))) (fun y hy => by rw [stepL_len]; exact hx y (by simp [hy]))

end Go.Proofs.Ytgnaeeifnhgobaa
