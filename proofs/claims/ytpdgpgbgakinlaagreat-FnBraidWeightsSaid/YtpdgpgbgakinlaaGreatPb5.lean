/-
  Walks and plain laws of this seat, some texts in one.
  No condition but bounds on lengths.
-/
import Derived.Test.YtpdgpgbgakinlaaGreatPb1
namespace Go.Proofs.YtpdgpgbgakinlaaGreat
set_option maxRecDepth 100000
set_option linter.unusedVariables false
set_option linter.unusedSimpArgs false
def gv (v : List Int) (i : Nat) : Int := v.getD i 0
def cg (p a b : Int) : Prop := ∃ k, a = b + p * k
theorem cg.refl (p a : Int) : cg p a a := ⟨0, by simp⟩
theorem cg.of {p a b : Int} (h : a = b) : cg p a b := h ▸ cg.refl p a
theorem cg.symm {p a b : Int} (h : cg p a b) : cg p b a := by obtain ⟨k, h⟩ := h; exact ⟨-k, by grind⟩
theorem cg.trans {p a b c : Int} (h : cg p a b) (g : cg p b c) : cg p a c := by obtain ⟨k, h⟩ := h; obtain ⟨l, g⟩ := g; exact ⟨k + l, by grind⟩
theorem cg.add {p a b c d : Int} (h : cg p a b) (g : cg p c d) : cg p (a + c) (b + d) := by obtain ⟨k, h⟩ := h; obtain ⟨l, g⟩ := g; exact ⟨k + l, by grind⟩
theorem cg.sub {p a b c d : Int} (h : cg p a b) (g : cg p c d) : cg p (a - c) (b - d) := by obtain ⟨k, h⟩ := h; obtain ⟨l, g⟩ := g; exact ⟨k - l, by grind⟩
theorem cg.mul (t : Int) {p a b : Int} (h : cg p a b) : cg p (t * a) (t * b) := by obtain ⟨k, h⟩ := h; exact ⟨t * k, by grind⟩
theorem cg.mulr (t : Int) {p a b : Int} (h : cg p a b) : cg p (a * t) (b * t) := by obtain ⟨k, h⟩ := h; exact ⟨t * k, by grind⟩
theorem cg.mod (p a : Int) : cg p (a % p) a := ⟨-(a / p), by have := Int.emod_add_mul_ediv a p; grind⟩
theorem cg.eq {p a b : Int} (h : cg p a b) (h1 : 0 ≤ a) (h2 : a < p) (h3 : 0 ≤ b) (h4 : b < p) : a = b := by
  obtain ⟨k, h⟩ := h
  have e : a % p = b % p := by rw [h]; exact Int.add_mul_emod_self_left _ _ _
  rwa [Int.emod_eq_of_lt h1 h2, Int.emod_eq_of_lt h3 h4] at e
inductive Gen (p : Int) (N : Nat) (S : List (List Int)) : (Nat → Int) → Prop
  | zero (v : Nat → Int) : (∀ i, i < N → cg p (v i) 0) → Gen p N S v
  | add (u v : Nat → Int) (r : List Int) (c : Int) : Gen p N S u → r ∈ S → (∀ i, i < N → cg p (v i) (u i + c * gv r i)) → Gen p N S v
theorem Gen.congr {p : Int} {N : Nat} {S : List (List Int)} {u v : Nat → Int} (h : Gen p N S u) (e : ∀ i, i < N → cg p (v i) (u i)) : Gen p N S v := by
  cases h with
  | zero _ h => exact .zero v fun i hi => (e i hi).trans (h i hi)
  | add u' _ r c hu hr h => exact .add u' v r c hu hr fun i hi => (e i hi).trans (h i hi)
theorem Gen.plus {p : Int} {N : Nat} {S : List (List Int)} {u v : Nat → Int} (hu : Gen p N S u) (hv : Gen p N S v) : Gen p N S (fun i => u i + v i) := by
  induction hv with
  | zero v h => exact hu.congr fun i hi => by have := (cg.refl p (u i)).add (h i hi); simpa using this
  | add u' v r c _ hr h ih => exact .add _ _ r c ih hr fun i hi => by have := (cg.refl p (u i)).add (h i hi); rwa [← Int.add_assoc] at this
theorem Gen.smul {p : Int} {N : Nat} {S : List (List Int)} {v : Nat → Int} (t : Int) (hv : Gen p N S v) : Gen p N S (fun i => t * v i) := by
  induction hv with
  | zero v h => exact .zero _ fun i hi => by have := (h i hi).mul t; simpa using this
  | add u v r c _ hr h ih => exact .add _ _ r (t * c) ih hr fun i hi => by have := (h i hi).mul t; rwa [Int.mul_add, ← Int.mul_assoc] at this
theorem Gen.mem {p : Int} {N : Nat} {S : List (List Int)} {r : List Int} (h : r ∈ S) : Gen p N S (gv r) :=
  .add (fun _ => 0) _ r 1 (.zero _ fun i hi => cg.refl _ _) h fun i hi => cg.of (by simp)
theorem Gen.sub {p : Int} {N : Nat} {S T : List (List Int)} {v : Nat → Int} (h : ∀ r, r ∈ T → Gen p N S (gv r)) (hv : Gen p N T v) : Gen p N S v := by
  induction hv with
  | zero v h => exact .zero v h
  | add u v r c _ hr e ih => exact (ih.plus ((h r hr).smul c)).congr e
theorem Gen.lin {p : Int} {N : Nat} {S : List (List Int)} {u v w : Nat → Int} (t : Int) (hu : Gen p N S u) (hv : Gen p N S v) (e : ∀ i, i < N → cg p (w i) (u i + t * v i)) : Gen p N S w :=
  (hu.plus (hv.smul t)).congr e
def ldN (v : List Int) : Nat := v.findIdx (fun x => !decide (x = 0))
theorem ldN_le (v : List Int) : ldN v ≤ v.length := List.findIdx_le_length
theorem ldN_lt {v : List Int} (h : ldN v < v.length) : gv v (ldN v) ≠ 0 := by
  have t : (!decide (v[ldN v] = 0)) = true := List.findIdx_getElem (p := fun x : Int => !decide (x = 0)) (xs := v) (w := h)
  intro e
  unfold gv at e
  rw [List.getD_eq_getElem?_getD, List.getElem?_eq_getElem h] at e
  rw [Option.getD_some] at e
  rw [e] at t
  simp at t
theorem ldN_pre {v : List Int} {i : Nat} (h : i < ldN v) : gv v i = 0 := by
  have hl : i < v.length := Nat.lt_of_lt_of_le h (ldN_le v)
  have := List.not_of_lt_findIdx (p := fun x : Int => !decide (x = 0)) (xs := v) h
  unfold gv
  rw [List.getD_eq_getElem?_getD, List.getElem?_eq_getElem hl]
  simpa using this
theorem ldN_eq {v : List Int} {k : Nat} (hk : k < v.length) (h1 : gv v k ≠ 0) (h2 : ∀ i, i < k → gv v i = 0) : ldN v = k := by
  have a : ¬ k < ldN v := fun h => h1 (ldN_pre h)
  have b : ¬ ldN v < k := fun h => ldN_lt (by omega) (h2 _ h)
  omega
def Vec (p : Int) (N : Nat) (v : List Int) : Prop := v.length = N ∧ ∀ i, i < N → 0 ≤ gv v i ∧ gv v i < p
theorem Vec.ext {p : Int} {N : Nat} {u v : List Int} (hu : Vec p N u) (hv : Vec p N v) (h : ∀ i, i < N → cg p (gv u i) (gv v i)) : u = v := by
  refine List.ext_getElem (by rw [hu.1, hv.1]) fun i h1 h2 => ?_
  have hi : i < N := by rw [← hu.1]; exact h1
  have e := (h i hi).eq (hu.2 i hi).1 (hu.2 i hi).2 (hv.2 i hi).1 (hv.2 i hi).2
  unfold gv at e
  simpa [List.getD_eq_getElem?_getD, List.getElem?_eq_getElem h1, List.getElem?_eq_getElem h2] using e
theorem pair_all {R : List Int → List Int → Prop} {B : List (List Int)} (h : B.Pairwise fun b c => b ≠ c → R b c ∧ R c b) {b c : List Int} (hb : b ∈ B) (hc : c ∈ B) (ne : b ≠ c) : R b c ∧ R c b := by
  induction B with
  | nil => cases hb
  | cons a B ih =>
    rw [List.pairwise_cons] at h
    rcases List.mem_cons.1 hb with e | hb' <;> rcases List.mem_cons.1 hc with e2 | hc'
    · exact absurd (e.trans e2.symm) ne
    · subst e; exact h.1 c hc' ne
    · subst e2; exact (h.1 b hb' ne.symm).symm
    · exact ih h.2 hb' hc'
structure Rdc (p : Int) (N : Nat) (B : List (List Int)) : Prop where
  vec : ∀ b, b ∈ B → Vec p N b
  lt : ∀ b, b ∈ B → ldN b < N
  one : ∀ b, b ∈ B → gv b (ldN b) = 1
  ort : B.Pairwise fun b c => gv b (ldN c) = 0 ∧ gv c (ldN b) = 0
theorem Rdc.zero {p : Int} {N : Nat} {B : List (List Int)} (h : Rdc p N B) {b c : List Int} (hb : b ∈ B) (hc : c ∈ B) (ne : b ≠ c) : gv b (ldN c) = 0 := by
  have h2 : B.Pairwise fun b c => b ≠ c → gv b (ldN c) = 0 ∧ gv c (ldN b) = 0 := List.Pairwise.imp (S := fun b c => b ≠ c → gv b (ldN c) = 0 ∧ gv c (ldN b) = 0) (fun h _ => h) h.ort
  exact (pair_all (R := fun b c => gv b (ldN c) = 0) h2 hb hc ne).1
def cmbL (B : List (List Int)) (v : Nat → Int) (i : Nat) : Int := (B.map fun b => v (ldN b) * gv b i).sum
theorem cmbL_zero {p : Int} {B : List (List Int)} {v : Nat → Int} {i : Nat} (h : ∀ b, b ∈ B → cg p (v (ldN b) * gv b i) 0) : cg p (cmbL B v i) 0 := by
  induction B with
  | nil => exact cg.refl _ _
  | cons b B ih =>
    have := (h b (by simp)).add (ih fun c hc => h c (by simp [hc]))
    simpa [cmbL] using this
theorem cmbL_lin {p : Int} {B : List (List Int)} {u v : Nat → Int} {w : Nat → Int} (t : Int) (i : Nat) (h : ∀ b, b ∈ B → cg p (w (ldN b)) (u (ldN b) + t * v (ldN b))) : cg p (cmbL B w i) (cmbL B u i + t * cmbL B v i) := by
  induction B with
  | nil => exact cg.of (by simp [cmbL])
  | cons b B ih =>
    have h1 := (h b (by simp)).mulr (gv b i)
    have h2 := h1.add (ih fun c hc => h c (by simp [hc]))
    refine (cg.of (by simp [cmbL])).trans (h2.trans (cg.of ?_))
    simp only [cmbL, List.map_cons, List.sum_cons]
    grind
theorem cmbL_own {p : Int} {N : Nat} {B : List (List Int)} (h : Rdc p N B) {r : List Int} (hr : r ∈ B) (i : Nat) : cmbL B (gv r) i = gv r i := by
  have key : ∀ (B : List (List Int)), (B.Pairwise fun b c => gv b (ldN c) = 0 ∧ gv c (ldN b) = 0) → (∀ b, b ∈ B → gv b (ldN b) = 1) → r ∈ B → cmbL B (gv r) i = gv r i := by
    intro B
    induction B with
    | nil => intro _ _ hr; cases hr
    | cons b B ih =>
      intro hp h1 hr
      rw [List.pairwise_cons] at hp
      have e : cmbL (b :: B) (gv r) i = gv r (ldN b) * gv b i + cmbL B (gv r) i := by simp [cmbL]
      rw [e]
      rcases List.mem_cons.1 hr with rfl | hr
      · rw [h1 r (by simp)]
        have z : ∀ (C : List (List Int)), (∀ c, c ∈ C → gv r (ldN c) = 0) → cmbL C (gv r) i = 0 := by
          intro C
          induction C with
          | nil => intro _; rfl
          | cons c C ih =>
            intro hC
            have : cmbL (c :: C) (gv r) i = gv r (ldN c) * gv c i + cmbL C (gv r) i := by simp [cmbL]
            rw [this, hC c (by simp), ih fun d hd => hC d (by simp [hd])]; simp
        rw [z B fun c hc => (hp.1 c hc).1]; omega
      · rw [(hp.1 r hr).2, ih hp.2 (fun c hc => h1 c (by simp [hc])) hr]; omega
  exact key B h.ort h.one hr
theorem Gen.comb {p : Int} {N : Nat} {B : List (List Int)} (h : Rdc p N B) {v : Nat → Int} (hv : Gen p N B v) : ∀ i, i < N → cg p (v i) (cmbL B v i) := by
  induction hv with
  | zero v hz =>
    intro i hi
    refine (hz i hi).trans (cmbL_zero fun b hb => ?_).symm
    have := (hz _ (h.lt b hb)).mulr (gv b i)
    simpa using this
  | add u v r c _ hr e ih =>
    intro i hi
    have h1 := cmbL_lin (w := v) (u := u) (v := gv r) (p := p) c i fun b hb => e _ (h.lt b hb)
    rw [cmbL_own h hr] at h1
    exact (e i hi).trans (((ih i hi).add (cg.refl _ _)).trans h1.symm)
theorem Gen.first {p : Int} {N : Nat} {B : List (List Int)} (h : Rdc p N B) {v : Nat → Int} (hv : Gen p N B v) {k : Nat} (hk : k < N) (h0 : ∀ i, i < k → cg p (v i) 0) (h1 : ¬ cg p (v k) 0) : ∃ b, b ∈ B ∧ ldN b = k := by
  refine Classical.byContradiction fun hn => h1 ((hv.comb h k hk).trans (cmbL_zero fun b hb => ?_))
  by_cases e : ldN b < k
  · have := (h0 _ e).mulr (gv b k); simpa using this
  · have e2 : ldN b ≠ k := fun e2 => hn ⟨b, hb, e2⟩
    rw [ldN_pre (show k < ldN b by omega)]
    exact cg.of (by simp)
def addL (p t : Int) (a b : List Int) : List Int := (List.range a.length).map fun i => (gv a i + t * gv b i) % p
theorem addL_len (p t : Int) (a b : List Int) : (addL p t a b).length = a.length := by simp [addL]
theorem gv_map {n i : Nat} (f : Nat → Int) (h : i < n) : gv ((List.range n).map f) i = f i := by
  unfold gv; rw [List.getD_eq_getElem?_getD, List.getElem?_eq_getElem (by simpa using h)]; simp
theorem addL_gv {p t : Int} {a b : List Int} {i : Nat} (h : i < a.length) : gv (addL p t a b) i = (gv a i + t * gv b i) % p := gv_map _ h
theorem addL_vec {p t : Int} {N : Nat} {a b : List Int} (hp : 0 < p) (h : a.length = N) : Vec p N (addL p t a b) :=
  ⟨by rw [addL_len, h], fun i hi => by rw [addL_gv (by omega)]; exact ⟨Int.emod_nonneg _ (by omega), Int.emod_lt_of_pos _ hp⟩⟩
def IsInv (p a c : Int) : Prop := a * c % p = 1
def clrL (p : Int) (k : Nat) (T r : List Int) : List Int := if gv r k = 0 then r else addL p (p - gv r k) r T
theorem clr_key {p : Int} {N k : Nat} {T r : List Int} (h1p : 1 < p) (hk : k < N) (hr : Vec p N r) (h1 : gv T k = 1) (h0 : ∀ i, i < k → gv T i = 0) :
    Vec p N (clrL p k T r) ∧ gv (clrL p k T r) k = 0 ∧ (∀ i, i < N → gv T i = 0 → gv (clrL p k T r) i = gv r i) ∧ ∃ u, ∀ i, i < N → cg p (gv (clrL p k T r) i) (gv r i + u * gv T i) := by
  unfold clrL
  by_cases c : gv r k = 0
  · rw [if_pos c]
    exact ⟨hr, c, fun i _ _ => rfl, 0, fun i _ => cg.of (by simp)⟩
  · rw [if_neg c]
    have hg : ∀ i, i < N → gv (addL p (p - gv r k) r T) i = (gv r i + (p - gv r k) * gv T i) % p := fun i hi => addL_gv (by rw [hr.1]; exact hi)
    refine ⟨addL_vec (by omega) hr.1, ?_, fun i hi q => ?_, p - gv r k, fun i hi => by rw [hg i hi]; exact cg.mod _ _⟩
    · rw [hg k hk, h1, Int.mul_one, show gv r k + (p - gv r k) = p by omega, Int.emod_self]
    · rw [hg i hi, q, Int.mul_zero, Int.add_zero, Int.emod_eq_of_lt (hr.2 i hi).1 (hr.2 i hi).2]
def fndL (k : Nat) (Q : List (List Int)) : Nat := Q.findIdx (fun r => !decide (gv r k = 0))
def echS (p : Int) (inv : Int → Int) (N : Nat) (s : List (List Int) × List (List Int)) (k : Nat) : List (List Int) × List (List Int) :=
  if fndL k s.2 = s.2.length then s
  else
    let R := s.2.getD (fndL k s.2) []
    let T := addL p (p - (p - inv (gv R k))) (List.replicate N 0) R
    (s.1.map (clrL p k T) ++ [T], ((s.2.set (fndL k s.2) (s.2.getD 0 [])).drop 1).map (clrL p k T))
def echL (p : Int) (inv : Int → Int) (N : Nat) (rows : List (List Int)) : List (List Int) := ((List.range N).foldl (echS p inv N) ([], rows)).1
structure EchI (p : Int) (N : Nat) (rows : List (List Int)) (k : Nat) (s : List (List Int) × List (List Int)) : Prop where
  rdc : Rdc p N s.1
  inc : s.1.Pairwise fun b c => ldN b < ldN c
  low : ∀ b, b ∈ s.1 → ldN b < k
  vec : ∀ r, r ∈ s.2 → Vec p N r
  zer : ∀ r, r ∈ s.2 → ∀ i, i < k → gv r i = 0
  gen : ∀ v, Gen p N (s.1 ++ s.2) v ↔ Gen p N rows v
theorem mem_swap {Q : List (List Int)} {k : Nat} (hk : k < Q.length) (r : List Int) : r ∈ Q ↔ r = Q.getD k [] ∨ r ∈ (Q.set k (Q.getD 0 [])).drop 1 := by
  cases Q with
  | nil => simp at hk
  | cons a Q =>
    cases k with
    | zero => simp
    | succ k =>
      have hk' : k < Q.length := by simpa using hk
      simp only [List.set_cons_succ, List.drop_succ_cons, List.drop_zero, List.getD_cons_zero, List.getD_cons_succ, List.mem_cons]
      rw [List.getD_eq_getElem?_getD, List.getElem?_eq_getElem hk', Option.getD_some]
      constructor
      · rintro (rfl | h)
        · exact .inr (List.mem_iff_getElem.2 ⟨k, by simpa using hk', by simp⟩)
        · obtain ⟨i, hi, rfl⟩ := List.mem_iff_getElem.1 h
          by_cases e : i = k
          · subst e; exact .inl rfl
          · exact .inr (List.mem_iff_getElem.2 ⟨i, by simpa using hi, by rw [List.getElem_set_ne (by omega)]⟩)
      · rintro (rfl | h)
        · exact .inr (List.getElem_mem hk')
        · rcases List.mem_or_eq_of_mem_set h with h | h
          · exact .inr h
          · exact .inl h
theorem ech_step {p : Int} {N k : Nat} {inv : Int → Int} {rows : List (List Int)} {s : List (List Int) × List (List Int)} (h1p : 1 < p) (hi : ∀ a, 0 < a → a < p → IsInv p a (inv a)) (hk : k < N) (h : EchI p N rows k s) : EchI p N rows (k + 1) (echS p inv N s k) := by
  obtain ⟨P, Q⟩ := s
  obtain ⟨rdc, inc, low, vec, zer, gen⟩ := h
  simp only at rdc inc low vec zer gen
  unfold echS
  simp only
  by_cases c : fndL k Q = Q.length
  · rw [if_pos c]
    refine ⟨rdc, inc, fun b hb => Nat.lt_succ_of_lt (low b hb), vec, fun r hr i hi => ?_, gen⟩
    by_cases e : i = k
    · subst e
      have := List.findIdx_eq_length.1 c r hr
      simpa using this
    · exact zer r hr i (by omega)
  · rw [if_neg c]
    have hlt : fndL k Q < Q.length := by
      have : fndL k Q ≤ Q.length := List.findIdx_le_length
      omega
    obtain ⟨R, hR⟩ : ∃ R, Q.getD (fndL k Q) [] = R := ⟨_, rfl⟩
    have hRQ : R ∈ Q := by rw [← hR, List.getD_eq_getElem?_getD, List.getElem?_eq_getElem hlt]; exact List.getElem_mem hlt
    have hRk : gv R k ≠ 0 := by
      have t : (!decide (gv Q[fndL k Q] k = 0)) = true := List.findIdx_getElem (p := fun r => !decide (gv r k = 0)) (xs := Q) (w := hlt)
      rw [← hR, List.getD_eq_getElem?_getD, List.getElem?_eq_getElem hlt, Option.getD_some]
      simpa using t
    have hRv := vec R hRQ
    have hRz := zer R hRQ
    obtain ⟨a, ha⟩ : ∃ a, gv R k = a := ⟨_, rfl⟩
    have hab := hRv.2 k hk
    rw [ha] at hRk hab
    have hinv := hi a (by omega) hab.2
    unfold IsInv at hinv
    rw [hR, ha]
    generalize inv a = t at *
    have hpt : p - (p - t) = t := by omega
    rw [hpt]
    obtain ⟨T, hT⟩ : ∃ T, addL p t (List.replicate N 0) R = T := ⟨_, rfl⟩
    rw [hT]
    have hTv : Vec p N T := hT ▸ addL_vec (by omega) (by simp)
    have hTg : ∀ i, i < N → gv T i = t * gv R i % p := fun i hi => by
      rw [← hT, addL_gv (by simpa using hi)]
      have : gv (List.replicate N 0) i = 0 := by unfold gv; simp [List.getD_eq_getElem?_getD, hi]
      rw [this, Int.zero_add]
    have hT1 : gv T k = 1 := by rw [hTg k hk, ha, Int.mul_comm]; exact hinv
    have hT0 : ∀ i, i < k → gv T i = 0 := fun i hi => by rw [hTg i (by omega), hRz i hi]; simp
    have hTl : ldN T = k := ldN_eq (by rw [hTv.1]; exact hk) (by rw [hT1]; omega) hT0
    obtain ⟨Q', hQ'⟩ : ∃ Q', (Q.set (fndL k Q) (Q.getD 0 [])).drop 1 = Q' := ⟨_, rfl⟩
    have hmem : ∀ r, r ∈ Q ↔ r = R ∨ r ∈ Q' := fun r => by rw [← hQ', ← hR]; exact mem_swap hlt r
    rw [hQ']
    have hQv : ∀ r, r ∈ Q' → Vec p N r := fun r hr => vec r ((hmem r).2 (.inr hr))
    have hQz : ∀ r, r ∈ Q' → ∀ i, i < k → gv r i = 0 := fun r hr => zer r ((hmem r).2 (.inr hr))
    have F : ∀ r, Vec p N r → Vec p N (clrL p k T r) ∧ gv (clrL p k T r) k = 0 ∧ (∀ i, i < N → gv T i = 0 → gv (clrL p k T r) i = gv r i) ∧ ∃ u, ∀ i, i < N → cg p (gv (clrL p k T r) i) (gv r i + u * gv T i) := fun r hr => clr_key h1p hk hr hT1 hT0
    have hld : ∀ b, b ∈ P → ldN (clrL p k T b) = ldN b ∧ ∀ c, c ∈ P → gv (clrL p k T b) (ldN c) = gv b (ldN c) := by
      intro b hb
      obtain ⟨f1, f2, f3, f4⟩ := F b (rdc.vec b hb)
      have hs : ∀ c, c ∈ P → gv (clrL p k T b) (ldN c) = gv b (ldN c) := fun c hc => f3 _ (rdc.lt c hc) (hT0 _ (low c hc))
      refine ⟨ldN_eq (by rw [f1.1]; exact rdc.lt b hb) (by rw [hs b hb, rdc.one b hb]; omega) fun i hi => ?_, hs⟩
      have := low b hb
      rw [f3 i (by omega) (hT0 i (by omega))]; exact ldN_pre hi
    have gRT : ∀ {S : List (List Int)}, Gen p N S (gv R) → Gen p N S (gv T) := fun h => (h.smul t).congr fun i hi => by rw [hTg i hi]; exact cg.mod _ _
    have gTR : ∀ {S : List (List Int)}, Gen p N S (gv T) → Gen p N S (gv R) := fun h => (h.smul a).congr fun i hi => by
      obtain ⟨x, hx⟩ := cg.mod p (t * gv R i)
      obtain ⟨l, hl⟩ := cg.mod p (a * t)
      rw [hTg i hi]
      exact ⟨gv R i * l - a * x, by grind⟩
    refine ⟨⟨fun c hc => ?_, fun c hc => ?_, fun c hc => ?_, ?_⟩, ?_, fun c hc => ?_, fun c hc => ?_, fun c hc i hi => ?_, fun v => (Iff.trans ⟨fun hv => ?_, fun hv => ?_⟩ (gen v))⟩
    · rcases List.mem_append.1 hc with hc | hc
      · obtain ⟨b, hb, rfl⟩ := List.mem_map.1 hc
        exact (F b (rdc.vec b hb)).1
      · rw [List.mem_singleton.1 hc]; exact hTv
    · rcases List.mem_append.1 hc with hc | hc
      · obtain ⟨b, hb, rfl⟩ := List.mem_map.1 hc
        rw [(hld b hb).1]; exact rdc.lt b hb
      · rw [List.mem_singleton.1 hc, hTl]; exact hk
    · rcases List.mem_append.1 hc with hc | hc
      · obtain ⟨b, hb, rfl⟩ := List.mem_map.1 hc
        rw [(hld b hb).1, (hld b hb).2 b hb]; exact rdc.one b hb
      · rw [List.mem_singleton.1 hc, hTl]; exact hT1
    · refine List.pairwise_append.2 ⟨List.pairwise_map.2 (rdc.ort.imp_of_mem fun {b c} hb hc q => ?_), List.pairwise_singleton _ _, fun c hc d hd => ?_⟩
      · rw [(hld b hb).1, (hld c hc).1, (hld b hb).2 c hc, (hld c hc).2 b hb]; exact q
      · obtain ⟨b, hb, rfl⟩ := List.mem_map.1 hc
        rw [List.mem_singleton.1 hd, hTl, (hld b hb).1]
        exact ⟨(F b (rdc.vec b hb)).2.1, hT0 _ (low b hb)⟩
    · refine List.pairwise_append.2 ⟨List.pairwise_map.2 (inc.imp_of_mem fun {b c} hb hc q => ?_), List.pairwise_singleton _ _, fun c hc d hd => ?_⟩
      · rw [(hld b hb).1, (hld c hc).1]; exact q
      · obtain ⟨b, hb, rfl⟩ := List.mem_map.1 hc
        rw [List.mem_singleton.1 hd, hTl, (hld b hb).1]; exact low b hb
    · rcases List.mem_append.1 hc with hc | hc
      · obtain ⟨b, hb, rfl⟩ := List.mem_map.1 hc
        rw [(hld b hb).1]; have := low b hb; omega
      · rw [List.mem_singleton.1 hc, hTl]; omega
    · obtain ⟨r, hr, rfl⟩ := List.mem_map.1 hc
      exact (F r (hQv r hr)).1
    · obtain ⟨r, hr, rfl⟩ := List.mem_map.1 hc
      obtain ⟨f1, f2, f3, f4⟩ := F r (hQv r hr)
      by_cases e : i = k
      · rw [e]; exact f2
      · rw [f3 i (by omega) (hT0 i (by omega))]; exact hQz r hr i (by omega)
    · have gR : Gen p N (P ++ Q) (gv R) := Gen.mem (List.mem_append_right _ hRQ)
      have gF : ∀ r, r ∈ P ++ Q → Vec p N r → Gen p N (P ++ Q) (gv (clrL p k T r)) := fun r hr hv => by
        obtain ⟨u, hu⟩ := (F r hv).2.2.2
        exact Gen.lin u (Gen.mem hr) (gRT gR) hu
      refine Gen.sub (fun c hc => ?_) hv
      rcases List.mem_append.1 hc with hc | hc
      · rcases List.mem_append.1 hc with hc | hc
        · obtain ⟨b, hb, rfl⟩ := List.mem_map.1 hc
          exact gF b (List.mem_append_left _ hb) (rdc.vec b hb)
        · rw [List.mem_singleton.1 hc]; exact gRT gR
      · obtain ⟨r, hr, rfl⟩ := List.mem_map.1 hc
        exact gF r (List.mem_append_right _ ((hmem r).2 (.inr hr))) (hQv r hr)
    · obtain ⟨S, hS⟩ : ∃ S, P.map (clrL p k T) ++ [T] ++ Q'.map (clrL p k T) = S := ⟨_, rfl⟩
      rw [hS]
      have gT : Gen p N S (gv T) := Gen.mem (by rw [← hS]; simp)
      have gF : ∀ r, clrL p k T r ∈ S → Vec p N r → Gen p N S (gv r) := fun r hr hv => by
        obtain ⟨u, hu⟩ := (F r hv).2.2.2
        refine Gen.lin (-u) (Gen.mem hr) gT fun i hi => ?_
        obtain ⟨x, hx⟩ := hu i hi
        exact ⟨-x, by grind⟩
      refine Gen.sub (fun c hc => ?_) hv
      rcases List.mem_append.1 hc with hc | hc
      · refine gF c ?_ (rdc.vec c hc)
        rw [← hS, List.append_assoc]
        exact List.mem_append_left _ (List.mem_map.2 ⟨c, hc, rfl⟩)
      · rcases (hmem c).1 hc with rfl | hc
        · exact gTR gT
        · refine gF c ?_ (hQv c hc)
          rw [← hS]
          exact List.mem_append_right _ (List.mem_map.2 ⟨c, hc, rfl⟩)
theorem ech_inv {p : Int} {N : Nat} {inv : Int → Int} {rows : List (List Int)} (h1p : 1 < p) (hi : ∀ a, 0 < a → a < p → IsInv p a (inv a)) (hr : ∀ r, r ∈ rows → Vec p N r) : ∀ k, k ≤ N → EchI p N rows k ((List.range k).foldl (echS p inv N) ([], rows)) := by
  intro k
  induction k with
  | zero =>
    intro _
    exact ⟨⟨fun b hb => (by cases hb), fun b hb => (by cases hb), fun b hb => (by cases hb), List.Pairwise.nil⟩, List.Pairwise.nil, fun b hb => (by cases hb), hr, fun r _ i hi => absurd hi (by omega), fun v => (by simp)⟩
  | succ k ih =>
    intro hk
    rw [List.range_succ, List.foldl_append, List.foldl_cons, List.foldl_nil]
    exact ech_step h1p hi (by omega) (ih (by omega))
theorem ech_ok {p : Int} {N : Nat} {inv : Int → Int} {rows : List (List Int)} (h1p : 1 < p) (hi : ∀ a, 0 < a → a < p → IsInv p a (inv a)) (hr : ∀ r, r ∈ rows → Vec p N r) :
    Rdc p N (echL p inv N rows) ∧ ((echL p inv N rows).Pairwise fun b c => ldN b < ldN c) ∧ ∀ v, Gen p N (echL p inv N rows) v ↔ Gen p N rows v := by
  have h := ech_inv h1p hi hr N (Nat.le_refl _)
  unfold echL
  generalize (List.range N).foldl (echS p inv N) ([], rows) = s at *
  refine ⟨h.rdc, h.inc, fun v => (Iff.trans ⟨fun hv => Gen.sub (fun r hr => Gen.mem (List.mem_append_left _ hr)) hv, fun hv => Gen.sub (fun r hr => ?_) hv⟩ (h.gen v))⟩
  rcases List.mem_append.1 hr with hr | hr
  · exact Gen.mem hr
  · exact .zero _ fun i hi => cg.of (h.zer r hr i hi)
def invF (p a : Int) : Int := (((List.range 7).find? fun b : Nat => a * (b : Int) % p = 1).getD 0 : Nat)
theorem invF_ok {p : Int} (hp : p = 2 ∨ p = 3 ∨ p = 5 ∨ p = 7) : ∀ a, 0 < a → a < p → IsInv p a (invF p a) ∧ 1 ≤ invF p a ∧ invF p a < p ∧ ∀ b : Nat, 1 ≤ b → (b : Int) < invF p a → a * b % p ≠ 1 := by
  intro a h0 h1
  have key : ∀ (p a : Fin 8), (p.1 = 2 ∨ p.1 = 3 ∨ p.1 = 5 ∨ p.1 = 7) → 0 < a.1 → a.1 < p.1 → ((a.1 : Int) * invF p.1 a.1 % (p.1 : Int) = 1 ∧ 1 ≤ invF p.1 a.1 ∧ invF p.1 a.1 < p.1 ∧ ∀ b : Fin 7, 1 ≤ b.1 → ((b.1 : Nat) : Int) < invF p.1 a.1 → (a.1 : Int) * ((b.1 : Nat) : Int) % (p.1 : Int) ≠ 1) := by decide +kernel
  obtain ⟨P, rfl⟩ : ∃ P : Nat, p = P := ⟨p.toNat, by omega⟩
  obtain ⟨A, rfl⟩ : ∃ A : Nat, a = A := ⟨a.toNat, by omega⟩
  have hP : P = 2 ∨ P = 3 ∨ P = 5 ∨ P = 7 := by omega
  obtain ⟨k1, k2, k3, k4⟩ := key ⟨P, by omega⟩ ⟨A, by omega⟩ hP (show 0 < A by omega) (show A < P by omega)
  have k5 : invF (P : Int) (A : Int) < (P : Int) := k3
  exact ⟨k1, k2, k3, fun b hb hlt => k4 ⟨b, by omega⟩ hb hlt⟩
end Go.Proofs.YtpdgpgbgakinlaaGreat
