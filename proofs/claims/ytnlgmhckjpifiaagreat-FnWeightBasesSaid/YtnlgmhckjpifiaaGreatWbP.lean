/-
  The lists of a basis of weights make exactly the weights: a matrix is a weight exactly if it is a sum of their multiples, and exactly if taking them away at their first places leaves 0.
  No condition.
-/
import Derived.Test.YtnlgmhckjpifiaaGreatWbB
import Derived.Test.YtnlgmhckjpifiaaGreatIswI
namespace Go.Proofs.YtnlgmhckjpifiaaGreat
set_option linter.unusedVariables false
set_option linter.unusedSimpArgs false

/-- the pairing of two lists of N numbers -/
def dtN (u v : Nat → Int) : Nat → Int
  | 0 => 0
  | N + 1 => dtN u v N + u N * v N
theorem dtN_comm (u v : Nat → Int) : ∀ N, dtN u v N = dtN v u N
  | 0 => rfl
  | N + 1 => by rw [dtN, dtN, dtN_comm u v N, Int.mul_comm]
theorem dtN_lin {p : Int} {x u v w : Nat → Int} (t : Int) : ∀ N, (∀ i, i < N → cg p (w i) (u i + t * v i)) → cg p (dtN x w N) (dtN x u N + t * dtN x v N)
  | 0, _ => cg.of (by simp [dtN])
  | N + 1, h => by
    have h1 := dtN_lin (x := x) t N fun i hi => h i (by omega)
    have h2 := (h N (by omega)).mul (x N)
    have h3 := h1.add h2
    refine h3.trans (cg.of ?_)
    simp only [dtN]; grind
theorem dtN_zero {p : Int} {u v : Nat → Int} : ∀ N, (∀ i, i < N → cg p (u i * v i) 0) → cg p (dtN u v N) 0
  | 0, _ => cg.refl _ _
  | N + 1, h => by
    have := (dtN_zero N fun i hi => h i (by omega)).add (h N (by omega))
    simpa [dtN] using this
theorem dtN_one {p : Int} {u v : Nat → Int} {j : Nat} : ∀ N, j < N → (∀ i, i < N → i ≠ j → cg p (u i * v i) 0) → cg p (dtN u v N) (u j * v j)
  | 0, h, _ => by omega
  | N + 1, hj, h => by
    by_cases e : N = j
    · subst e
      have := (dtN_zero (u := u) (v := v) N fun i hi => h i (by omega) (by omega)).add (cg.refl p (u N * v N))
      simpa [dtN] using this
    · have := (dtN_one N (by omega) fun i hi ne => h i (by omega) ne).add (h N (by omega) e)
      simpa [dtN] using this
theorem Gen.dot {p : Int} {N : Nat} {S : List (List Int)} {v u : Nat → Int} (hv : Gen p N S v) (h : ∀ r, r ∈ S → cg p (dtN (gv r) u N) 0) : cg p (dtN v u N) 0 := by
  induction hv with
  | zero v hz => exact dtN_zero N fun i hi => by have := (hz i hi).mulr (u i); simpa using this
  | add u' v r c _ hr e ih =>
    have h1 := dtN_lin (x := u) c N e
    rw [dtN_comm u v, dtN_comm u u', dtN_comm u (gv r)] at h1
    have h2 := ih.add ((h r hr).mul c)
    exact h1.trans (by simpa using h2)
theorem dtN_set {x : Nat → Int} {l : List Int} {j : Nat} {z : Int} : ∀ N, N ≤ l.length → dtN x (gv (l.set j z)) N = dtN x (gv l) N + if j < N then x j * (z - gv l j) else 0
  | 0, _ => by simp [dtN]
  | N + 1, hN => by
    rw [dtN, dtN, dtN_set N (by omega), gv_set (by omega)]
    by_cases e : N = j
    · subst e
      rw [if_neg (by omega), if_pos rfl, if_pos (by omega)]; grind
    · rw [if_neg e]
      by_cases q : j < N
      · rw [if_pos q, if_pos (by omega)]; omega
      · rw [if_neg q, if_neg (by omega)]; omega

/-! ### the kernel -/
theorem Rdc.lead {p : Int} {N : Nat} {R : List (List Int)} (h : Rdc p N R) {i j : Nat} (hi : i < j) (hj : j < R.length) : ldN R[i] ≠ ldN R[j] := by
  have h1 := List.pairwise_iff_getElem.1 h.ort i j (by omega) hj hi
  intro e
  have h2 := h.one R[j] (List.getElem_mem hj)
  rw [← e, h1.2] at h2; omega
theorem ker_gv {p : Int} {N : Nat} {R : List (List Int)} (h : Rdc p N R) {pl : Nat} (hpl : pl < N) (hf : ∀ r, r ∈ R → ldN r ≠ pl) : ∀ j, j ≤ R.length →
    gv (kerR p N R pl j) pl = 1 ∧ (∀ i, i < N → i ≠ pl → (∀ r, r ∈ R.take j → ldN r ≠ i) → gv (kerR p N R pl j) i = 0) ∧ ∀ x : Nat → Int, dtN x (gv (kerR p N R pl j)) N = x pl + ((R.take j).map fun s => x (ldN s) * ((p - gv s pl) % p)).sum := by
  intro j
  induction j with
  | zero =>
    intro _
    have hz : ∀ i, gv (List.replicate N (0 : Int)) i = 0 := fun i => by
      unfold gv; rw [List.getD_eq_getElem?_getD, List.getElem?_replicate]; split <;> rfl
    refine ⟨by show gv ((List.replicate N 0).set pl 1) pl = 1; rw [gv_set (by simpa using hpl), if_pos rfl], fun i hi ne _ => ?_, fun x => ?_⟩
    · show gv ((List.replicate N 0).set pl 1) i = 0
      rw [gv_set (by simpa using hi), if_neg ne, hz]
    · show dtN x (gv ((List.replicate N 0).set pl 1)) N = _
      rw [dtN_set N (by simp), if_pos hpl, hz]
      have : ∀ M, dtN x (gv (List.replicate N (0 : Int))) M = 0 := fun M => by
        induction M with
        | zero => rfl
        | succ M ih => rw [dtN, ih, hz]; simp
      rw [this]; simp
  | succ j ih =>
    intro hj
    have hj' : j < R.length := by omega
    obtain ⟨h1, h2, h3⟩ := ih (by omega)
    have hmem : R[j] ∈ R := List.getElem_mem hj'
    have hlt := h.lt _ hmem
    have hne := hf _ hmem
    have eg : R.getD j [] = R[j] := by rw [List.getD_eq_getElem?_getD, List.getElem?_eq_getElem hj']; rfl
    have hlen := kerR_len p N R pl j
    have hfree : gv (kerR p N R pl j) (ldN R[j]) = 0 := h2 _ hlt hne fun r hr => by
      obtain ⟨i, hi, rfl⟩ := List.mem_iff_getElem.1 hr
      rw [List.length_take] at hi
      rw [List.getElem_take]
      exact h.lead (by omega) hj'
    rw [kerR_succ hj', eg]
    refine ⟨?_, fun i hi ne hr => ?_, fun x => ?_⟩
    · rw [gv_set (by omega), if_neg (fun e => hne e.symm)]; exact h1
    · rw [gv_set (by omega)]
      rw [List.take_succ_eq_append_getElem hj'] at hr
      rw [if_neg (fun e => hr R[j] (List.mem_append_right _ (by simp)) e.symm)]
      exact h2 i hi ne fun r hr2 => hr r (List.mem_append_left _ hr2)
    · rw [dtN_set N (by omega), if_pos hlt, hfree, h3 x, List.take_succ_eq_append_getElem hj', List.map_append, List.sum_append]
      simp; omega
theorem ker_sum {p : Int} (x : Nat → Int) (pl : Nat) : ∀ S : List (List Int), cg p ((S.map fun s => x (ldN s) * ((p - gv s pl) % p)).sum) (-(cmbL S x pl))
  | [] => cg.of (by simp [cmbL])
  | s :: S => by
    have h1 := ker_sum (p := p) x pl S
    have h2 : cg p (x (ldN s) * ((p - gv s pl) % p)) (-(x (ldN s) * gv s pl)) := by
      have e := (cg.mod p (p - gv s pl)).mul (x (ldN s))
      refine e.trans ⟨x (ldN s), by grind⟩
    have h3 := h2.add h1
    have e : cmbL (s :: S) x pl = x (ldN s) * gv s pl + cmbL S x pl := by simp [cmbL]
    rw [e, List.map_cons, List.sum_cons]
    exact h3.trans (cg.of (by omega))
theorem ker_dot {p : Int} {N : Nat} {R : List (List Int)} (h : Rdc p N R) {pl : Nat} (hpl : pl < N) (hf : ∀ r, r ∈ R → ldN r ≠ pl) {r : List Int} (hr : r ∈ R) : cg p (dtN (gv r) (gv (kerR p N R pl R.length)) N) 0 := by
  rw [(ker_gv h hpl hf R.length (Nat.le_refl _)).2.2 (gv r), List.take_length]
  have := (cg.refl p (gv r pl)).add (ker_sum (p := p) (gv r) pl R)
  rw [cmbL_own h hr pl] at this
  exact this.trans (cg.of (by omega))
theorem pvK_no {R : List (List Int)} {pl : Nat} (h : pvK R R.length pl = false) : ∀ r, r ∈ R → ldN r ≠ pl := fun r hr e => by
  obtain ⟨i, hi, rfl⟩ := List.mem_iff_getElem.1 hr
  unfold pvK at h
  rw [List.any_eq_false] at h
  exact h i (List.mem_range.2 hi) (by rw [List.getD_eq_getElem?_getD, List.getElem?_eq_getElem hi]; simpa using e)
theorem pvK_yes {R : List (List Int)} {pl : Nat} (h : pvK R R.length pl = true) : ∃ r, r ∈ R ∧ ldN r = pl := by
  unfold pvK at h
  obtain ⟨i, hi, e⟩ := List.any_eq_true.1 h
  have hi' := List.mem_range.1 hi
  rw [List.getD_eq_getElem?_getD, List.getElem?_eq_getElem hi'] at e
  exact ⟨R[i], List.getElem_mem hi', by simpa using e⟩
theorem ker_all {p : Int} {N : Nat} {R : List (List Int)} (h : Rdc p N R) {k : List Int} (hk : k ∈ kerL p N R N) {r : List Int} (hr : r ∈ R) : cg p (dtN (gv r) (gv k) N) 0 := by
  unfold kerL at hk
  obtain ⟨pl, hpl, hk⟩ := List.mem_flatMap.1 hk
  have hpl := List.mem_range.1 hpl
  cases c : pvK R R.length pl with
  | true => rw [if_pos c] at hk; cases hk
  | false =>
    rw [if_neg (by simp [c])] at hk
    rw [List.mem_singleton.1 hk]
    exact ker_dot h hpl (pvK_no c) hr
theorem ker_mem {p : Int} {N : Nat} {R : List (List Int)} {pl : Nat} (hpl : pl < N) (h : pvK R R.length pl = false) : kerR p N R pl R.length ∈ kerL p N R N := by
  unfold kerL
  exact List.mem_flatMap.2 ⟨pl, List.mem_range.2 hpl, by rw [if_neg (by simp [h])]; simp⟩
theorem ker_span {p : Int} {N : Nat} {R : List (List Int)} (h : Rdc p N R) {v : Nat → Int} (hv : ∀ r, r ∈ R → cg p (dtN (gv r) v N) 0) : Gen p N (kerL p N R N) v := by
  have key : ∀ k, k ≤ N → ∃ u, Gen p N (kerL p N R N) (fun i => v i - u i) ∧ (∀ r, r ∈ R → cg p (dtN (gv r) u N) 0) ∧ ∀ pl, pl < k → pvK R R.length pl = false → cg p (u pl) 0 := by
    intro k
    induction k with
    | zero => intro _; exact ⟨v, .zero _ fun i _ => cg.of (by omega), hv, fun pl h => by omega⟩
    | succ k ih =>
      intro hk
      obtain ⟨u, h1, h2, h3⟩ := ih (by omega)
      cases c : pvK R R.length k with
      | true => exact ⟨u, h1, h2, fun pl hp hq => by
          by_cases e : pl = k
          · subst e; rw [c] at hq; cases hq
          · exact h3 pl (by omega) hq⟩
      | false =>
        have hf := pvK_no c
        have hK := ker_gv (p := p) h (show k < N by omega) hf R.length (Nat.le_refl _)
        refine ⟨fun i => u i - u k * gv (kerR p N R k R.length) i, ?_, fun r hr => ?_, fun pl hp hq => ?_⟩
        · exact Gen.lin (u k) h1 (Gen.mem (ker_mem (by omega) c)) fun i _ => cg.of (by show v i - (u i - u k * gv (kerR p N R k R.length) i) = v i - u i + u k * gv (kerR p N R k R.length) i; omega)
        · have e := dtN_lin (p := p) (x := gv r) (u := u) (v := gv (kerR p N R k R.length)) (w := fun i => u i - u k * gv (kerR p N R k R.length) i) (-(u k)) N fun i _ => cg.of (by grind)
          have e2 := (h2 r hr).add ((ker_dot h (show k < N by omega) hf hr).mul (-(u k)))
          exact e.trans (e2.trans (cg.of (by simp)))
        · by_cases e : pl = k
          · subst e
            show cg p (u pl - u pl * gv (kerR p N R pl R.length) pl) 0
            rw [hK.1]; exact cg.of (by omega)
          · have ez : gv (kerR p N R k R.length) pl = 0 := hK.2.1 pl (by omega) e fun r hr => by
              rw [List.take_length] at hr
              exact pvK_no hq r hr
            show cg p (u pl - u k * gv (kerR p N R k R.length) pl) 0
            rw [ez]; simpa using h3 pl (by omega) hq
  obtain ⟨u, h1, h2, h3⟩ := key N (Nat.le_refl _)
  have hz : ∀ i, i < N → cg p (u i) 0 := fun i hi => by
    cases c : pvK R R.length i with
    | false => exact h3 i hi c
    | true =>
      obtain ⟨r, hr, rfl⟩ := pvK_yes c
      have e := dtN_one (p := p) (u := gv r) (v := u) N hi fun q hq ne => by
        cases cq : pvK R R.length q with
        | false => have := (h3 q hq cq).mul (gv r q); simpa using this
        | true =>
          obtain ⟨s, hs, rfl⟩ := pvK_yes cq
          have : gv r (ldN s) = 0 := h.zero hr hs fun e => ne (by rw [e])
          rw [this]; exact cg.of (by simp)
      rw [h.one r hr] at e
      have := e.symm.trans (h2 r hr)
      simpa using this
  exact h1.congr fun i hi => by
    obtain ⟨k, hk⟩ := hz i hi
    exact ⟨k, by grind⟩

theorem isPr_inv {p : Int} (hp : isPr p) : 1 < p ∧ ∀ a, 0 < a → a < p → IsInv p a (invF p a) := by
  refine ⟨by unfold isPr at hp; omega, fun a h1 h2 => (invF_ok hp a h1 h2).1⟩
/-- the reduced kernel -/
def rkL (p : Int) (N : Nat) (rows : List (List Int)) : List (List Int) := echL p (invF p) N (kerL p N (echL p (invF p) N rows) N)
theorem rk_rdc {p : Int} {N : Nat} {rows : List (List Int)} (hp : isPr p) : Rdc p N (rkL p N rows) :=
  (ech_ok (isPr_inv hp).1 (isPr_inv hp).2 (kerL_vec (isPr_inv hp).1 N)).1
theorem rk_iff {p : Int} {N : Nat} {rows : List (List Int)} (hp : isPr p) (hr : ∀ r, r ∈ rows → Vec p N r) (v : Nat → Int) : Gen p N (rkL p N rows) v ↔ ∀ r, r ∈ rows → cg p (dtN (gv r) v N) 0 := by
  obtain ⟨h1, h2⟩ := isPr_inv hp
  obtain ⟨hR, _, hG⟩ := ech_ok h1 h2 hr
  obtain ⟨_, _, hK⟩ := ech_ok h1 h2 (kerL_vec (p := p) (N := N) (R := echL p (invF p) N rows) h1 N)
  constructor
  · intro h r hr2
    have h3 : ∀ s, s ∈ echL p (invF p) N rows → cg p (dtN (gv s) v N) 0 := fun s hs => by
      rw [dtN_comm]
      refine Gen.dot ((hK v).1 h) fun k hk => ?_
      rw [dtN_comm]; exact ker_all hR hk hs
    exact Gen.dot ((hG (gv r)).2 (Gen.mem hr2)) h3
  · intro h
    exact (hK v).2 (ker_span hR fun s hs => Gen.dot ((hG (gv s)).1 (Gen.mem hs)) h)
theorem rdc_iff {p : Int} {N : Nat} {B : List (List Int)} (hp : isPr p) (hB : Rdc p N B) {r : List Int} (hr : Vec p N r) : Gen p N B (gv r) ↔ ∀ i, i < N → gv (rdcL p B r) i = 0 := by
  obtain ⟨h1, h2⟩ := isPr_inv hp
  obtain ⟨v1, v2, g, hg, hc⟩ := rdc_key h1 hB B [] r rfl hr (fun b hb => by cases hb)
  constructor
  · intro h i hi
    have hG : Gen p N B (gv (rdcL p B r)) := (h.plus hg).congr hc
    have hz := Gen.null hB hG (fun b hb => cg.of (v2 b hb)) i hi
    have hb := v1.2 i hi
    exact hz.eq hb.1 hb.2 (by omega) (by omega)
  · intro h
    refine (hg.smul (-1)).congr fun i hi => ?_
    have e := hc i hi
    rw [h i hi] at e
    obtain ⟨k, hk⟩ := e
    exact ⟨-k, by grind⟩
/-- a row without the rows of B, each taken away as often as the number at its first place tells -/
def takL (p : Int) (B : List (List Int)) (r : List Int) : List Int := B.foldl (fun r b => addL p (p - gv r (ldN b)) r b) r
theorem addL_p {p : Int} {N : Nat} {r b : List Int} (hr : Vec p N r) : addL p (p - 0) r b = r := by
  apply List.ext_getElem (by rw [addL_len])
  intro i h1 h2
  have hv := hr.2 i (by rw [← hr.1]; exact h2)
  have e : gv r i = r[i] := by unfold gv; rw [List.getD_eq_getElem?_getD, List.getElem?_eq_getElem h2]; rfl
  have e2 : (addL p (p - 0) r b)[i] = gv (addL p (p - 0) r b) i := by unfold gv; rw [List.getD_eq_getElem?_getD, List.getElem?_eq_getElem h1]; rfl
  rw [e2, addL_gv h2, Int.sub_zero, Int.add_mul_emod_self_left, ← e]
  exact Int.emod_eq_of_lt hv.1 hv.2
theorem takL_rdc {p : Int} {N : Nat} (hp : 0 < p) : ∀ (B : List (List Int)) {r : List Int}, Vec p N r → takL p B r = rdcL p B r
  | [], r, _ => rfl
  | b :: B, r, hr => by
    show takL p B (addL p (p - gv r (ldN b)) r b) = rdcL p B (if gv r (ldN b) = 0 then r else addL p (p - gv r (ldN b)) r b)
    rw [takL_rdc hp B (addL_vec hp hr.1)]
    by_cases e : gv r (ldN b) = 0
    · rw [if_pos e, e, addL_p hr]
    · rw [if_neg e]

/-! ### matrices -/
/-- n rows of n numbers out of one list -/
def chL (n : Nat) (xs : List Int) : List (List Int) := (List.range n).map fun x => (xs.drop (x * n)).take n
theorem chL_len (n : Nat) (xs : List Int) : (chL n xs).length = n := by simp [chL]
theorem chL_row {n x : Nat} {xs : List Int} (hx : x < n) : (chL n xs).getD x [] = (xs.drop (x * n)).take n := by
  unfold chL; rw [List.getD_eq_getElem?_getD, List.getElem?_eq_getElem (by simpa using hx)]; simp
theorem pairN {n x y : Nat} (hx : x < n) (hy : y < n) : x * n + y < n * n := by
  have : (x + 1) * n ≤ n * n := Nat.mul_le_mul_right n hx
  rw [Nat.add_mul] at this; omega
theorem rowN {n x : Nat} (hx : x < n) : x * n + n ≤ n * n := by
  have : (x + 1) * n ≤ n * n := Nat.mul_le_mul_right n hx
  rw [Nat.add_mul] at this; omega
theorem chL_rlen {n x : Nat} {xs : List Int} (hx : x < n) (hl : xs.length = n * n) : ((chL n xs).getD x []).length = n := by
  have := rowN hx
  rw [chL_row hx, List.length_take, List.length_drop, hl]; omega
theorem chL_at {n x y : Nat} {xs : List Int} (hx : x < n) (hy : y < n) : ((chL n xs).getD x []).getD y 0 = gv xs (x * n + y) := by
  rw [chL_row hx]; unfold gv
  rw [List.getD_eq_getElem?_getD, List.getElem?_take, if_pos hy, List.getElem?_drop, ← List.getD_eq_getElem?_getD]
theorem chL_mx {n : Nat} {p : Int} {xs : List Int} (hp : 1 ≤ p ∧ p ≤ 12) (h : Vec p (n * n) xs) : isMx (n : Int) p (chL n xs) = true := by
  unfold isMx rngB
  have h1 : decide (1 ≤ p) = true := by simpa using hp.1
  have h2 : decide (p ≤ 12) = true := by simpa using hp.2
  rw [h1, h2, chL_len]
  simp only [Bool.and_self, decide_true, Bool.true_and]
  rw [List.all_eq_true]
  intro row hrow
  obtain ⟨x, hx, rfl⟩ := List.mem_iff_getElem.1 hrow
  rw [chL_len] at hx
  have e : (chL n xs)[x] = (chL n xs).getD x [] := by rw [List.getD_eq_getElem?_getD, List.getElem?_eq_getElem (by rw [chL_len]; exact hx)]; rfl
  rw [e]
  have hl := chL_rlen hx h.1
  unfold rowOk
  rw [hl, List.all_eq_true.2]
  · simp
  · intro z hz
    obtain ⟨y, hy, rfl⟩ := List.mem_iff_getElem.1 hz
    have hy' : y < n := by rw [hl] at hy; exact hy
    have e2 : ((chL n xs).getD x [])[y] = gv xs (x * n + y) := by rw [← chL_at hx hy', List.getD_eq_getElem?_getD (l := (chL n xs).getD x []), List.getElem?_eq_getElem hy]; rfl
    rw [e2]
    have := h.2 _ (pairN hx hy')
    unfold rngB; simp; omega
theorem wtT_ch {n k : Nat} {p : Int} {r l l' : List Int} (h : Vec p (n * n) r) (hl : Less n l) (hk : k + 1 < l.length) : wtT (chL n r) p ((k : Int) + 1) l l' = gv r (numP n l k) := by
  unfold wtT
  have e : (plc ((k : Int) + 1)).toNat = k := by unfold plc; rw [if_neg (by omega)]; omega
  rw [if_pos (by omega), e]
  obtain ⟨x, hx, ex⟩ := hl k (by omega)
  obtain ⟨y, hy, ey⟩ := hl (k + 1) hk
  unfold numP tv
  rw [ex, ey]
  simp only [Int.toNat_natCast]
  rw [chL_at hx hy]
  have := (h.2 _ (pairN hx hy)).1
  omega
theorem cp_dot {f g : List (List Int)} {n : Nat} {p t : Int} {r : List Int} (hf : Sq n f) (hg : Sq n g) (hp : 0 < p) (hr : Vec p (n * n) r) : ∀ (ks : List Nat) (st : List Int × List Int), (∀ k, k ∈ ks → k + 1 < 3) → CpI n p 3 st →
    cg p (dtN (gv (cpF f g n p t ks st).2) (gv r) (n * n)) (dtN (gv st.2) (gv r) (n * n) + t * wtS n f g (chL n r) p (ks.map fun k : Nat => ((k : Int) + 1)) st.1)
  | [], st, _, _ => cg.of (by simp [cpF, wtS])
  | k :: ks, st, hk, h => by
    have hk1 := hk k (by simp)
    have h1 := cp_dot (t := t) hf hg hp hr ks (cpS f g n p t st k) (fun j hj => hk j (by simp [hj])) (h.step hf hg hp hk1)
    have e1 : cpF f g n p t (k :: ks) st = cpF f g n p t ks (cpS f g n p t st k) := rfl
    have e2 : (cpS f g n p t st k).1 = stepL n f g ((k : Int) + 1) st.1 := stepL_pos.symm
    have hN := numP_lt h.less (show k + 1 < st.1.length by rw [h.len]; exact hk1)
    have e3 : dtN (gv (cpS f g n p t st k).2) (gv r) (n * n) = dtN (gv st.2) (gv r) (n * n) + gv r (numP n st.1 k) * ((gv st.2 (numP n st.1 k) + t) % p - gv st.2 (numP n st.1 k)) := by
      show dtN (gv (st.2.set _ _)) (gv r) (n * n) = _
      rw [dtN_comm, dtN_set (n * n) (by rw [h.vec.1]; exact Nat.le_refl _), if_pos hN, dtN_comm]
    have e4 : wtS n f g (chL n r) p ((k :: ks).map fun k : Nat => ((k : Int) + 1)) st.1 = gv r (numP n st.1 k) + wtS n f g (chL n r) p (ks.map fun k : Nat => ((k : Int) + 1)) (stepL n f g ((k : Int) + 1) st.1) := by
      rw [List.map_cons, wtS, wtT_ch hr h.less (by rw [h.len]; exact hk1)]
    rw [e1, e4]
    rw [e2, e3] at h1
    refine h1.trans ?_
    obtain ⟨q, hq⟩ := cg.mod p (gv st.2 (numP n st.1 k) + t)
    exact ⟨gv r (numP n st.1 k) * q, by rw [hq]; grind⟩
theorem rowW_dot {f g : List (List Int)} {n : Nat} {p : Int} {r : List Int} (hn : 1 ≤ n) (hf : Sq n f) (hg : Sq n g) (hp : 0 < p) (hr : Vec p (n * n) r) (m : Nat) :
    cg p (dtN (gv (rowW f g n p m)) (gv r) (n * n)) (wtS n f g (chL n r) p [1, 2, 1] (digL n 3 m) - wtS n f g (chL n r) p [2, 1, 2] (digL n 3 m)) := by
  have hk1 : ∀ k : Nat, k ∈ [0, 1, 0] → k + 1 < 3 := by intro k hk; simp at hk; omega
  have hk2 : ∀ k : Nat, k ∈ [1, 0, 1] → k + 1 < 3 := by intro k hk; simp at hk; omega
  have hst0 : CpI n p 3 (digL n 3 m, List.replicate (n * n) 0) := ⟨digL_len n 3 m, digL_less n 3 m hn, rep_vecW hp⟩
  have h1 := cp_dot (t := 1) hf hg hp hr [0, 1, 0] _ hk1 hst0
  have h2 := cp_dot (t := p - 1) hf hg hp hr [1, 0, 1] _ hk2 (rowW_two hn hf hg hp m)
  have e1 : ([0, 1, 0].map fun k : Nat => ((k : Int) + 1)) = [1, 2, 1] := rfl
  have e2 : ([1, 0, 1].map fun k : Nat => ((k : Int) + 1)) = [2, 1, 2] := rfl
  rw [e1] at h1
  rw [e2] at h2
  have e3 : dtN (gv (List.replicate (n * n) (0 : Int))) (gv r) (n * n) = 0 := by
    have hz : ∀ i, gv (List.replicate (n * n) (0 : Int)) i = 0 := fun i => by
      unfold gv; rw [List.getD_eq_getElem?_getD, List.getElem?_replicate]; split <;> rfl
    have : ∀ M, dtN (gv (List.replicate (n * n) (0 : Int))) (gv r) M = 0 := fun M => by
      induction M with
      | zero => rfl
      | succ M ih => rw [dtN, ih, hz]; simp
    exact this _
  rw [e3] at h1
  refine h2.trans ?_
  have h3 := h1.add (cg.refl p ((p - 1) * wtS n f g (chL n r) p [2, 1, 2] (digL n 3 m)))
  refine h3.trans ⟨wtS n f g (chL n r) p [2, 1, 2] (digL n 3 m), ?_⟩
  show 0 + 1 * wtS n f g (chL n r) p [1, 2, 1] (digL n 3 m) + (p - 1) * wtS n f g (chL n r) p [2, 1, 2] (digL n 3 m) = _
  grind
theorem fltL_nil {n : Nat} {P : List Int → Bool} : fltL n P = [] ↔ ∀ M, M < n * n * n → P (digL n 3 M) = false := by
  constructor
  · intro h M hM
    unfold fltL at h
    cases e : (List.range (n * n * n)).find? (fun N => P (digL n 3 N)) with
    | none =>
      rw [List.find?_eq_none] at e
      have := e M (List.mem_range.2 hM)
      simpa using this
    | some N =>
      rw [e] at h
      have := congrArg List.length h
      rw [digL_len] at this; simp at this
  · exact fltL_miss
/-- a list is a weight exactly if the rows of the equations are 0 at it -/
theorem wt_iff {f g : List (List Int)} {n : Nat} {p : Int} {r : List Int} (hn : 1 ≤ n) (hf : Sq n f) (hg : Sq n g) (hp : 0 < p) (hr : Vec p (n * n) r) : wtFlt n f g (chL n r) p = [] ↔ ∀ q, q ∈ rowsW f g n p → cg p (dtN (gv q) (gv r) (n * n)) 0 := by
  unfold wtFlt
  rw [fltL_nil]
  constructor
  · intro h q hq
    unfold rowsW at hq
    obtain ⟨m, hm, rfl⟩ := List.mem_map.1 hq
    have hb := h m (List.mem_range.1 hm)
    refine (rowW_dot hn hf hg hp hr m).trans ?_
    unfold wtBad wtF at hb
    have he : wtS n f g (chL n r) p [1, 2, 1] (digL n 3 m) % p = wtS n f g (chL n r) p [2, 1, 2] (digL n 3 m) % p := by simpa using hb
    have := (cg.mod p (wtS n f g (chL n r) p [1, 2, 1] (digL n 3 m))).symm.trans ((cg.of he).trans (cg.mod p _))
    have := this.sub (cg.refl p (wtS n f g (chL n r) p [2, 1, 2] (digL n 3 m)))
    exact this.trans (cg.of (by omega))
  · intro h m hm
    have hq := h (rowW f g n p m) (List.mem_map.2 ⟨m, List.mem_range.2 hm, rfl⟩)
    have hc := (rowW_dot hn hf hg hp hr m).symm.trans hq
    have hc := hc.add (cg.refl p (wtS n f g (chL n r) p [2, 1, 2] (digL n 3 m)))
    have hmod : ∀ x : Int, 0 ≤ x % p ∧ x % p < p := fun x => ⟨Int.emod_nonneg _ (by omega), Int.emod_lt_of_pos _ hp⟩
    have he : wtS n f g (chL n r) p [1, 2, 1] (digL n 3 m) % p = wtS n f g (chL n r) p [2, 1, 2] (digL n 3 m) % p := by
      refine cg.eq (p := p) ?_ (hmod _).1 (hmod _).2 (hmod _).1 (hmod _).2
      refine (cg.mod p _).trans (((cg.of (by omega)).trans (hc.trans (cg.of (by omega)))).trans (cg.mod p _).symm)
    unfold wtBad wtF
    simpa using he
theorem wb_rk (f g : List (List Int)) (n : Nat) (p : Int) : wbL f g n p = rkL p (n * n) (rowsW f g n p) := rfl
/-- a list is a weight exactly if it is made of the basis -/
theorem wt_gen {f g : List (List Int)} {n : Nat} {p : Int} {r : List Int} (hp : isPr p) (hn : 1 ≤ n) (hf : Sq n f) (hg : Sq n g) (hr : Vec p (n * n) r) : wtFlt n f g (chL n r) p = [] ↔ Gen p (n * n) (wbL f g n p) (gv r) := by
  have hp0 : 0 < p := by unfold isPr at hp; omega
  rw [wt_iff hn hf hg hp0 hr, wb_rk, rk_iff hp (rowsW_vec hn hf hg hp0)]
/-- a list is a weight exactly if taking the basis away leaves 0 -/
theorem wt_tak {f g : List (List Int)} {n : Nat} {p : Int} {r : List Int} (hp : isPr p) (hn : 1 ≤ n) (hf : Sq n f) (hg : Sq n g) (hr : Vec p (n * n) r) : wtFlt n f g (chL n r) p = [] ↔ ∀ i, i < n * n → gv (takL p (wbL f g n p) r) i = 0 := by
  have hp0 : 0 < p := by unfold isPr at hp; omega
  rw [wt_gen hp hn hf hg hr, takL_rdc hp0 _ hr, wb_rk]
  exact rdc_iff hp (rk_rdc hp) hr
/-- what is made of the basis, step by step -/
theorem gen_step {p : Int} (hp : isPr p) {B : List (List Int)} {N : Nat} {r b : List Int} (hr : Vec p N r) (hG : Gen p N B (gv r)) (hb : b ∈ B) (k : Int) : Vec p N (addL p k r b) ∧ Gen p N B (gv (addL p k r b)) :=
  ⟨addL_vec (by unfold isPr at hp; omega) hr.1, Gen.lin k hG (Gen.mem hb) fun i hi => addL_cg p k (by rw [hr.1]; exact hi)⟩
end Go.Proofs.YtnlgmhckjpifiaaGreat
