/-
  Braids lead tuples: products, inverses and periods, in plain lists.
  No condition.
-/
import Derived.Test.YtdkpalllfekiiaaGreatBase2
namespace Go.Proofs.YtdkpalllfekiiaaGreat
set_option linter.unusedVariables false
set_option linter.unusedSimpArgs false

theorem actL_app (n : Nat) (f g : List (List Int)) (xs ys l : List Int) : actL n f g (xs ++ ys) l = actL n f g ys (actL n f g xs l) := by unfold actL; rw [List.foldl_append]
theorem doF_get {f g : List (List Int)} {i : Nat} {l : List Int} {x y : Nat} (hx : l.getD i 0 = (x : Int)) (hy : l.getD (i + 1) 0 = (y : Int)) (k : Nat) (hk : k < l.length) : (doF f g i l).getD k 0 = if k = i + 1 then ((tv g x y : Nat) : Int) else if k = i then ((tv f x y : Nat) : Int) else l.getD k 0 := by
  unfold doF
  rw [hx, hy, Int.toNat_natCast, Int.toNat_natCast, getD_set' _ _ _ _ _ (by rw [List.length_set]; exact hk)]
  split
  · rfl
  · rw [getD_set' _ _ _ _ _ hk]
/-- a pair map that takes another one back -/
theorem doF_back {n : Nat} {f g f' g' : List (List Int)} (hb : ∀ x y, x < n → y < n → tv f' (tv f x y) (tv g x y) = x ∧ tv g' (tv f x y) (tv g x y) = y) {i : Nat} {l : List Int} (hi : i + 1 < l.length) (h : Less n l) : doF f' g' i (doF f g i l) = l := by
  obtain ⟨x, hx, ex⟩ := h i (by omega)
  obtain ⟨y, hy, ey⟩ := h (i + 1) hi
  obtain ⟨h1, h2⟩ := hb x y hx hy
  have e1 : (doF f g i l).getD i 0 = ((tv f x y : Nat) : Int) := by rw [doF_get ex ey i (by omega), if_neg (by omega), if_pos rfl]
  have e2 : (doF f g i l).getD (i + 1) 0 = ((tv g x y : Nat) : Int) := by rw [doF_get ex ey (i + 1) hi, if_pos rfl]
  refine list_ext0 (by rw [doF_len, doF_len]) fun k hk => ?_
  have hk' : k < l.length := by rw [doF_len, doF_len] at hk; exact hk
  rw [doF_get e1 e2 k (by rw [doF_len]; exact hk'), h1, h2]
  split
  · rename_i e; rw [e, ey]
  · split
    · rename_i e; rw [e, ex]
    · rw [doF_get ex ey k hk']; rename_i n1 n2; rw [if_neg n1, if_neg n2]
theorem plc_neg {x : Int} (h : x ≠ 0) : plc (-x) = plc x := by
  unfold plc
  by_cases q : x < 0
  · rw [if_pos q, if_neg (by omega)]
  · rw [if_neg q, if_pos (by omega)]; omega
theorem step_back {n : Nat} {f g : List (List Int)} (hn : 1 ≤ n) (hf : Sq n f) (hg : Sq n g) (hc : collOk n f g = true) {x : Int} {l : List Int} (hx : x ≠ 0) (hi : (plc x).toNat + 1 < l.length) (h : Less n l) : stepL n f g (-x) (stepL n f g x l) = l := by
  have h1 : ∀ x y, x < n → y < n → tv (bfT n f g) (tv f x y) (tv g x y) = x ∧ tv (bgT n f g) (tv f x y) (tv g x y) = y := fun x y hx hy =>
    ⟨bf_tv hn hc hx hy (hf.lt hx hy) (hg.lt hx hy) rfl rfl, bg_tv hn hc hx hy (hf.lt hx hy) (hg.lt hx hy) rfl rfl⟩
  have h2 : ∀ u v, u < n → v < n → tv f (tv (bfT n f g) u v) (tv (bgT n f g) u v) = u ∧ tv g (tv (bfT n f g) u v) (tv (bgT n f g) u v) = v := fun u v hu hv => by
    obtain ⟨x, y, hx, hy, e1, e2⟩ := pr_ex hn hf hg hc hu hv
    rw [bf_tv hn hc hx hy hu hv e1 e2, bg_tv hn hc hx hy hu hv e1 e2]
    exact ⟨e1, e2⟩
  unfold stepL
  rw [plc_neg hx]
  by_cases q : 0 < x
  · rw [if_pos q, if_neg (by omega)]
    exact doF_back h1 hi h
  · rw [if_neg q, if_pos (by omega)]
    exact doF_back h2 hi h
/-- the opposite letters in reverse order -/
def ivL (xs : List Int) : List Int := (xs.map fun x => -x).reverse
theorem ivL_cons (x : Int) (xs : List Int) : ivL (x :: xs) = ivL xs ++ [-x] := by simp [ivL]
theorem ivL_len (xs : List Int) : (ivL xs).length = xs.length := by simp [ivL]
theorem act_back {n : Nat} {f g : List (List Int)} (hn : 1 ≤ n) (hf : Sq n f) (hg : Sq n g) (hc : collOk n f g = true) : ∀ (xs l : List Int), (∀ x ∈ xs, x ≠ 0 ∧ (plc x).toNat + 1 < l.length) → Less n l → actL n f g (ivL xs) (actL n f g xs l) = l := by
  intro xs
  induction xs with
  | nil => intro l _ _; rfl
  | cons x xs ih =>
    intro l hx h
    have h0 := hx x (by simp)
    have hs := h.step hn hf hg hc x h0.2
    have e : actL n f g (x :: xs) l = actL n f g xs (stepL n f g x l) := rfl
    rw [ivL_cons, actL_app, e, ih _ (fun y hy => by rw [stepL_len]; exact hx y (by simp [hy])) hs]
    exact step_back hn hf hg hc h0.1 h0.2 h
/-- a braid done again and again -/
def actM (n : Nat) (f g : List (List Int)) (xs : List Int) : Nat → List Int → List Int
  | 0, l => l
  | m + 1, l => actL n f g xs (actM n f g xs m l)
theorem digL_num {n s : Nat} (hn : 1 ≤ n) {l : List Int} (hl : l.length = s) (h : Less n l) : digL n s (numL n l) = l := by
  have h1 := numL_lt hn h
  rw [hl] at h1
  exact (num_inj hn (digL n s (numL n l)) l 0 0 (by rw [digL_len, hl]) (digL_less n s _ hn).mem h.mem (numL_dig s _ h1)).2
theorem actM_less {n s : Nat} {f g : List (List Int)} {xs : List Int} (hn : 1 ≤ n) (hf : Sq n f) (hg : Sq n g) (hc : collOk n f g = true) (hx : ∀ x ∈ xs, (plc x).toNat + 1 < s) {l : List Int} (hl : l.length = s) (h : Less n l) : ∀ m, (actM n f g xs m l).length = s ∧ Less n (actM n f g xs m l) := by
  intro m
  induction m with
  | zero => exact ⟨hl, h⟩
  | succ m ih => exact ⟨by show (actL n f g xs _).length = s; rw [actL_len]; exact ih.1, ih.2.act hn hf hg hc xs fun x hx' => by rw [ih.1]; exact hx x hx'⟩
theorem actM_it {n s : Nat} {f g : List (List Int)} {xs : List Int} (hn : 1 ≤ n) (hf : Sq n f) (hg : Sq n g) (hc : collOk n f g = true) (hx : ∀ x ∈ xs, (plc x).toNat + 1 < s) {l : List Int} (hl : l.length = s) (h : Less n l) : ∀ m, numL n (actM n f g xs m l) = itf (nxtN n s f g xs) m (numL n l) := by
  intro m
  induction m with
  | zero => rfl
  | succ m ih =>
    obtain ⟨h1, h2⟩ := actM_less hn hf hg hc hx hl h m
    show numL n (actL n f g xs (actM n f g xs m l)) = nxtN n s f g xs (itf (nxtN n s f g xs) m (numL n l))
    rw [← ih]
    unfold nxtN
    rw [digL_num hn h1 h2]
theorem itf_dvd {F : Nat → Nat} {K x p : Nat} (h : PermN F K) (hx : x < K) (hd : cyc F K x ∣ p) : itf F p x = x := by
  obtain ⟨k, rfl⟩ := hd
  induction k with
  | zero => rfl
  | succ k ih => rw [Nat.mul_succ, itf_add, (h.cyc_spec hx).2.2.1, ih]
/-- the period is a number of times after which each tuple comes back -/
theorem per_back {f g : List (List Int)} {s : Nat} {xs : List Int} {p : Int} (h : bpF f g s xs = (p, 0)) (hx : isBr s xs = true → ∀ x ∈ xs, (plc x).toNat + 1 < s) :
    isSol f g = true ∧ isBr s xs = true ∧ 1 ≤ p ∧ p ≤ 1000000000 ∧ ∀ l : List Int, l.length = s → Less f.length l → actM f.length f g xs p.toNat l = l := by
  cases q1 : isSol f g with
  | false => rw [bpF_0 q1] at h; simp at h
  | true =>
    cases q2 : isBr s xs with
    | false => rw [bpF_1 q1 q2] at h; simp at h
    | true =>
      by_cases q3 : f.length ^ (s : Int).toNat ≤ 5000
      · rw [bpF_3 q1 q2 q3, Int.toNat_natCast] at h
        obtain ⟨hn1, hn12, sf, sg⟩ := isSol_sq q1
        have hc := isSol_coll q1
        have hx := hx q2
        have hP := nxt_perm hn1 sf sg hc hx
        cases hk : perK (nxtN f.length s f g xs) (f.length ^ s) (f.length ^ s) with
        | none => rw [perF_none hk (Nat.le_refl _)] at h; simp at h
        | some q =>
          rw [perF_some hk] at h
          obtain ⟨p1, p2, p3⟩ := perK_some hk
          obtain rfl : (q : Int) = p := by simpa using h
          refine ⟨rfl, rfl, by omega, by omega, fun l hl hL => ?_⟩
          obtain ⟨h1, h2⟩ := actM_less hn1 sf sg hc hx hl hL q
          have hlt := numL_lt hn1 hL
          rw [hl] at hlt
          have e := actM_it hn1 sf sg hc hx hl hL q
          rw [itf_dvd hP hlt (p3 _ hlt)] at e
          rw [Int.toNat_natCast, ← digL_num hn1 h1 h2, e, digL_num hn1 hl hL]
      · rw [bpF_2 q1 q2 q3] at h; simp at h
end Go.Proofs.YtdkpalllfekiiaaGreat
