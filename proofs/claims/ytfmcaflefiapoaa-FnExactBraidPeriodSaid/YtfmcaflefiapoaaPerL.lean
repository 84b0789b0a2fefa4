/-
  A braid permutes the tuples, by their numbers: in plain lists.
  No condition.
-/
import Derived.Test.YtfmcaflefiapoaaCycL
import Derived.Test.YtfmcaflefiapoaaDigL
namespace Go.Proofs.Ytfmcaflefiapoaa
set_option linter.unusedVariables false
set_option linter.unusedSimpArgs false

/-- the number of a tuple -/
def numL (n : Nat) (l : List Int) : Nat := l.foldl (fun a x => a * n + x.toNat) 0
theorem numL_take {n : Nat} {l : List Int} {k : Nat} (h : k < l.length) : numL n (l.take (k + 1)) = numL n (l.take k) * n + (l.getD k 0).toNat := by
  unfold numL
  rw [List.take_succ_eq_append_getElem h, List.foldl_append]
  simp [List.getD_eq_getElem?_getD, List.getElem?_eq_getElem h]
def LessM (n : Nat) (l : List Int) : Prop := ∀ x ∈ l, 0 ≤ x ∧ x < n
theorem Less.mem {n : Nat} {l : List Int} (h : Less n l) : LessM n l := fun x hx => by
  obtain ⟨i, hi, rfl⟩ := List.getElem_of_mem hx
  obtain ⟨k, hk, e⟩ := h i hi
  rw [List.getD_eq_getElem?_getD, List.getElem?_eq_getElem hi] at e
  simp only [Option.getD_some] at e
  omega
theorem num_bd {n : Nat} (hn : 1 ≤ n) : ∀ (l : List Int) (a : Nat), LessM n l → l.foldl (fun a x => a * n + x.toNat) a < (a + 1) * n ^ l.length := by
  intro l
  induction l with
  | nil => intro a _; simp
  | cons x r ih =>
    intro a h
    rw [List.foldl_cons]
    have h1 := ih (a * n + x.toNat) (fun y hy => h y (List.mem_cons_of_mem _ hy))
    have hx := h x (List.mem_cons_self ..)
    refine Nat.lt_of_lt_of_le h1 ?_
    rw [List.length_cons, Nat.pow_succ, Nat.mul_comm (n ^ r.length) n, ← Nat.mul_assoc]
    refine Nat.mul_le_mul_right _ ?_
    rw [Nat.add_mul, Nat.one_mul]
    omega
theorem numL_lt {n : Nat} (hn : 1 ≤ n) {l : List Int} (h : Less n l) : numL n l < n ^ l.length := by
  have := num_bd hn l 0 h.mem
  simpa [numL] using this
theorem num_inj {n : Nat} (hn : 1 ≤ n) : ∀ (l l' : List Int) (a a' : Nat), l.length = l'.length → LessM n l → LessM n l' → l.foldl (fun a x => a * n + x.toNat) a = l'.foldl (fun a x => a * n + x.toNat) a' → a = a' ∧ l = l' := by
  intro l
  induction l with
  | nil =>
    intro l' a a' hl _ _ e
    have : l' = [] := List.eq_nil_of_length_eq_zero hl.symm
    subst this
    exact ⟨by simpa using e, rfl⟩
  | cons x r ih =>
    intro l' a a' hl h h' e
    cases l' with
    | nil => simp at hl
    | cons y s =>
      rw [List.foldl_cons, List.foldl_cons] at e
      obtain ⟨e1, e2⟩ := ih s _ _ (by simpa using hl) (fun z hz => h z (List.mem_cons_of_mem _ hz)) (fun z hz => h' z (List.mem_cons_of_mem _ hz)) e
      have hx := h x (List.mem_cons_self ..)
      have hy := h' y (List.mem_cons_self ..)
      have d1 := congrArg (· / n) e1
      have d2 := congrArg (· % n) e1
      simp only [pair_div hn (show x.toNat < n by omega), pair_div hn (show y.toNat < n by omega), pair_mod (show x.toNat < n by omega), pair_mod (show y.toNat < n by omega)] at d1 d2
      exact ⟨d1, by rw [e2, show x = y by omega]⟩
theorem digL_succ (n s N : Nat) : digL n (s + 1) N = digL n s (N / n) ++ [((N % n : Nat) : Int)] := by
  unfold digL
  rw [List.range_succ, List.map_append]
  congr 1
  · apply List.map_congr_left
    intro i hi
    have hi := List.mem_range.1 hi
    have : s + 1 - 1 - i = (s - 1 - i) + 1 := by omega
    rw [this, Nat.pow_succ, Nat.mul_comm, ← Nat.div_div_eq_div_mul]
  · simp
theorem numL_dig {n : Nat} : ∀ (s N : Nat), N < n ^ s → numL n (digL n s N) = N := by
  intro s
  induction s with
  | zero => intro N h; simp [digL, numL] at *; omega
  | succ s ih =>
    intro N h
    rw [digL_succ]
    unfold numL
    rw [List.foldl_append]
    have h1 : N / n < n ^ s := Nat.div_lt_of_lt_mul (by rw [Nat.mul_comm, ← Nat.pow_succ]; exact h)
    have := ih (N / n) h1
    unfold numL at this
    rw [this]
    simp only [List.foldl_cons, List.foldl_nil, Int.toNat_natCast]
    rw [Nat.mul_comm]
    exact Nat.div_add_mod N n
/-- a pair map that leads different pairs to different ones -/
def InjP (n : Nat) (f g : List (List Int)) : Prop := ∀ a b c d, a < n → b < n → c < n → d < n → tv f a b = tv f c d → tv g a b = tv g c d → a = c ∧ b = d
theorem coll_injP {n : Nat} {f g : List (List Int)} (hn : 1 ≤ n) (hc : collOk n f g = true) : InjP n f g := by
  intro a b c d ha hb hc' hd h1 h2
  have := coll_inj hc (pair_lt ha hb) (pair_lt hc' hd) (by rw [pair_div hn hb, pair_mod hb, pair_div hn hd, pair_mod hd]; exact h1) (by rw [pair_div hn hb, pair_mod hb, pair_div hn hd, pair_mod hd]; exact h2)
  have e1 := congrArg (· / n) this
  have e2 := congrArg (· % n) this
  simp only [pair_div hn hb, pair_div hn hd, pair_mod hb, pair_mod hd] at e1 e2
  exact ⟨e1, e2⟩
theorem inv_injP {n : Nat} {f g : List (List Int)} (hn : 1 ≤ n) (hf : Sq n f) (hg : Sq n g) (hc : collOk n f g = true) : InjP n (bfT n f g) (bgT n f g) := by
  intro a b c d ha hb hc' hd h1 h2
  obtain ⟨x, y, hx, hy, e1, e2⟩ := pr_ex hn hf hg hc ha hb
  obtain ⟨u, v, hu, hv, e3, e4⟩ := pr_ex hn hf hg hc hc' hd
  rw [bf_tv hn hc hx hy ha hb e1 e2, bf_tv hn hc hu hv hc' hd e3 e4] at h1
  rw [bg_tv hn hc hx hy ha hb e1 e2, bg_tv hn hc hu hv hc' hd e3 e4] at h2
  subst h1 h2
  exact ⟨e1.symm.trans e3, e2.symm.trans e4⟩
theorem list_ext0 {l l' : List Int} (hl : l.length = l'.length) (h : ∀ i, i < l.length → l.getD i 0 = l'.getD i 0) : l = l' := by
  apply List.ext_getElem hl
  intro i h1 h2
  have := h i h1
  simpa [List.getD_eq_getElem?_getD, List.getElem?_eq_getElem h1, List.getElem?_eq_getElem h2] using this
theorem doF_inj {n : Nat} {f g : List (List Int)} (hI : InjP n f g) {i : Nat} {l l' : List Int} (hl : l.length = l'.length) (hi : i + 1 < l.length) (h : Less n l) (h' : Less n l') (e : doF f g i l = doF f g i l') : l = l' := by
  obtain ⟨a, ha, ea⟩ := h i (by omega)
  obtain ⟨b, hb, eb⟩ := h (i + 1) hi
  obtain ⟨c, hc, ec⟩ := h' i (by omega)
  obtain ⟨d, hd, ed⟩ := h' (i + 1) (by omega)
  unfold doF at e
  rw [ea, eb, ec, ed] at e
  simp only [Int.toNat_natCast] at e
  have L1 : ∀ z j, j < l.length → j < (l.set i z).length := fun z j hj => by rw [List.length_set]; exact hj
  have L2 : ∀ z j, j < l.length → j < (l'.set i z).length := fun z j hj => by rw [List.length_set, ← hl]; exact hj
  have g1 := congrArg (fun L => L.getD i 0) e
  have g2 := congrArg (fun L => L.getD (i + 1) 0) e
  try simp only at g1 g2
  rw [getD_set' _ _ _ _ _ (L1 _ _ (by omega)), getD_set' _ _ _ _ _ (by omega), getD_set' _ _ _ _ _ (L2 _ _ (by omega)), getD_set' _ _ _ _ _ (by omega), if_neg (by omega), if_pos rfl, if_neg (by omega), if_pos rfl] at g1
  rw [getD_set' _ _ _ _ _ (L1 _ _ hi), if_pos rfl, getD_set' _ _ _ _ _ (L2 _ _ hi), if_pos rfl] at g2
  obtain ⟨r1, r2⟩ := hI a b c d ha hb hc hd (by omega) (by omega)
  apply list_ext0 hl
  intro k hk
  by_cases k1 : k = i
  · subst k1; rw [ea, ec, r1]
  · by_cases k2 : k = i + 1
    · subst k2; rw [eb, ed, r2]
    · have g3 := congrArg (fun L => L.getD k 0) e
      try simp only at g3
      rw [getD_set' _ _ _ _ _ (L1 _ _ hk), getD_set' _ _ _ _ _ hk, getD_set' _ _ _ _ _ (L2 _ _ hk), getD_set' _ _ _ _ _ (by omega), if_neg k2, if_neg k1, if_neg k2, if_neg k1] at g3
      exact g3
theorem actL_inj {n : Nat} {f g : List (List Int)} (hn : 1 ≤ n) (hf : Sq n f) (hg : Sq n g) (hc : collOk n f g = true) : ∀ (xs : List Int) (l l' : List Int), l.length = l'.length → (∀ x ∈ xs, (plc x).toNat + 1 < l.length) → Less n l → Less n l' → actL n f g xs l = actL n f g xs l' → l = l' := by
  intro xs
  induction xs with
  | nil => intro l l' _ _ _ _ e; exact e
  | cons x r ih =>
    intro l l' hl hx h h' e
    have hx1 := hx x (List.mem_cons_self ..)
    have h1 := h.step hn hf hg hc x hx1
    have h2 := h'.step hn hf hg hc x (by omega)
    have := ih (stepL n f g x l) (stepL n f g x l') (by rw [stepL_len, stepL_len, hl]) (fun y hy => by rw [stepL_len]; exact hx y (List.mem_cons_of_mem _ hy)) h1 h2 e
    unfold stepL at this
    by_cases hp : 0 < x
    · rw [if_pos hp, if_pos hp] at this
      exact doF_inj (coll_injP hn hc) hl hx1 h h' this
    · rw [if_neg hp, if_neg hp] at this
      exact doF_inj (inv_injP hn hf hg hc) hl hx1 h h' this
/-- the number of the tuple to which the tuple with a number is led -/
def nxtN (n s : Nat) (f g : List (List Int)) (xs : List Int) (N : Nat) : Nat := numL n (actL n f g xs (digL n s N))
theorem nxt_perm {n s : Nat} {f g : List (List Int)} {xs : List Int} (hn : 1 ≤ n) (hf : Sq n f) (hg : Sq n g) (hc : collOk n f g = true) (hx : ∀ x ∈ xs, (plc x).toNat + 1 < s) : PermN (nxtN n s f g xs) (n ^ s) := by
  have hlen : ∀ N, (actL n f g xs (digL n s N)).length = s := fun N => by rw [actL_len, digL_len]
  have hle : ∀ N, Less n (actL n f g xs (digL n s N)) := fun N => (digL_less n s N hn).act hn hf hg hc xs (fun x h => by rw [digL_len]; exact hx x h)
  refine ⟨fun i hi => ?_, fun i j hi hj e => ?_⟩
  · have := numL_lt hn (hle i)
    rw [hlen] at this
    exact this
  · have e1 := (num_inj hn _ _ 0 0 (by rw [hlen, hlen]) (hle i).mem (hle j).mem e).2
    have e2 := actL_inj hn hf hg hc xs _ _ (by rw [digL_len, digL_len]) (fun x h => by rw [digL_len]; exact hx x h) (digL_less n s i hn) (digL_less n s j hn) e1
    rw [← numL_dig s i hi, ← numL_dig s j hj, e2]
/-- what BraidPeriod hands back -/
def bpF (f g : List (List Int)) (s : Int) (xs : List Int) : Int × Int :=
  if isSol f g then (if isBr s xs then (if f.length ^ s.toNat ≤ 5000 then perF (nxtN f.length s.toNat f g xs) (f.length ^ s.toNat) else (0, 3)) else (0, 1)) else (0, 1)
theorem bpF_0 {f g : List (List Int)} {s : Int} {xs : List Int} (h : isSol f g = false) : bpF f g s xs = (0, 1) := by unfold bpF; rw [h]; rfl
theorem bpF_1 {f g : List (List Int)} {s : Int} {xs : List Int} (h : isSol f g = true) (h1 : isBr s xs = false) : bpF f g s xs = (0, 1) := by unfold bpF; rw [h, h1]; rfl
theorem bpF_2 {f g : List (List Int)} {s : Int} {xs : List Int} (h : isSol f g = true) (h1 : isBr s xs = true) (h2 : ¬ f.length ^ s.toNat ≤ 5000) : bpF f g s xs = (0, 3) := by unfold bpF; rw [h, h1]; simp; omega
theorem bpF_3 {f g : List (List Int)} {s : Int} {xs : List Int} (h : isSol f g = true) (h1 : isBr s xs = true) (h2 : f.length ^ s.toNat ≤ 5000) : bpF f g s xs = perF (nxtN f.length s.toNat f g xs) (f.length ^ s.toNat) := by unfold bpF; rw [h, h1]; simp; omega
end Go.Proofs.Ytfmcaflefiapoaa
