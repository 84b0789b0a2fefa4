/-
  Reduced bases of rows modulo a number: what rows make, one reduced basis for one space, and two ways that lead to it.
  No condition.
-/
import Derived.Test.YtnlgmhckjpifiaaGreatBase
namespace Go.Proofs.YtnlgmhckjpifiaaGreat
set_option maxRecDepth 100000
set_option linter.unusedVariables false
set_option linter.unusedSimpArgs false

def gv (v : List Int) (i : Nat) : Int := v.getD i 0
/-- two numbers that differ by a multiple of p -/
def cg (p a b : Int) : Prop := ∃ k, a = b + p * k
theorem cg.refl (p a : Int) : cg p a a := ⟨0, by simp⟩
theorem cg.of {p a b : Int} (h : a = b) : cg p a b := h ▸ cg.refl p a
theorem cg.symm {p a b : Int} (h : cg p a b) : cg p b a := by obtain ⟨k, h⟩ := h; exact ⟨-k, by grind⟩
theorem cg.trans {p a b c : Int} (h : cg p a b) (g : cg p b c) : cg p a c := by obtain ⟨k, h⟩ := h; obtain ⟨l, g⟩ := g; exact ⟨k + l, by grind⟩
theorem cg.add {p a b c d : Int} (h : cg p a b) (g : cg p c d) : cg p (a + c) (b + d) := by obtain ⟨k, h⟩ := h; obtain ⟨l, g⟩ := g; exact ⟨k + l, by grind⟩
theorem cg.sub {p a b c d : Int} (h : cg p a b) (g : cg p c d) : cg p (a - c) (b - d) := by obtain ⟨k, h⟩ := h; obtain ⟨l, g⟩ := g; exact ⟨k - l, by grind⟩
theorem cg.mul (t : Int) {p a b : Int} (h : cg p a b) : cg p (t * a) (t * b) := by obtain ⟨k, h⟩ := h; exact ⟨t * k, by grind⟩
theorem cg.mulr (t : Int) {p a b : Int} (h : cg p a b) : cg p (a * t) (b * t) := by obtain ⟨k, h⟩ := h; exact ⟨t * k, by grind⟩
theorem cg.mod (p a : Int) : cg p (a % p) a := ⟨-(a / p), by have := Int.emod_add_mul_ediv a p; grind⟩
theorem cg.eq {p a b : Int} (h : cg p a b) (h1 : 0 ≤ a) (h2 : a < p) (h3 : 0 ≤ b) (h4 : b < p) : a = b := by
  obtain ⟨k, h⟩ := h
  have e : a % p = b % p := by rw [h]; exact Int.add_mul_emod_self_left _ _ _
  rwa [Int.emod_eq_of_lt h1 h2, Int.emod_eq_of_lt h3 h4] at e
theorem cg.self (p a : Int) : cg p (a + p) a := ⟨1, by grind⟩

/-- what the rows of S make, modulo p, at the first N places -/
inductive Gen (p : Int) (N : Nat) (S : List (List Int)) : (Nat → Int) → Prop
  | zero (v : Nat → Int) : (∀ i, i < N → cg p (v i) 0) → Gen p N S v
  | add (u v : Nat → Int) (r : List Int) (c : Int) : Gen p N S u → r ∈ S → (∀ i, i < N → cg p (v i) (u i + c * gv r i)) → Gen p N S v

theorem Gen.congr {p : Int} {N : Nat} {S : List (List Int)} {u v : Nat → Int} (h : Gen p N S u) (e : ∀ i, i < N → cg p (v i) (u i)) : Gen p N S v := by
  cases h with
  | zero _ h => exact .zero v fun i hi => (e i hi).trans (h i hi)
  | add u' _ r c hu hr h => exact .add u' v r c hu hr fun i hi => (e i hi).trans (h i hi)
theorem Gen.plus {p : Int} {N : Nat} {S : List (List Int)} {u v : Nat → Int} (hu : Gen p N S u) (hv : Gen p N S v) : Gen p N S (fun i => u i + v i) := by
  induction hv with
  | zero v h => exact hu.congr fun i hi => by have := (cg.refl p (u i)).add (h i hi); simpa using this
  | add u' v r c _ hr h ih => exact .add _ _ r c ih hr fun i hi => by have := (cg.refl p (u i)).add (h i hi); rwa [← Int.add_assoc] at this
theorem Gen.smul {p : Int} {N : Nat} {S : List (List Int)} {v : Nat → Int} (t : Int) (hv : Gen p N S v) : Gen p N S (fun i => t * v i) := by
  induction hv with
  | zero v h => exact .zero _ fun i hi => by have := (h i hi).mul t; simpa using this
  | add u v r c _ hr h ih => exact .add _ _ r (t * c) ih hr fun i hi => by have := (h i hi).mul t; rwa [Int.mul_add, ← Int.mul_assoc] at this
theorem Gen.mem {p : Int} {N : Nat} {S : List (List Int)} {r : List Int} (h : r ∈ S) : Gen p N S (gv r) :=
  .add (fun _ => 0) _ r 1 (.zero _ fun i hi => cg.refl _ _) h fun i hi => cg.of (by simp)
theorem Gen.sub {p : Int} {N : Nat} {S T : List (List Int)} {v : Nat → Int} (h : ∀ r, r ∈ T → Gen p N S (gv r)) (hv : Gen p N T v) : Gen p N S v := by
  induction hv with
  | zero v h => exact .zero v h
  | add u v r c _ hr e ih => exact (ih.plus ((h r hr).smul c)).congr e
theorem Gen.lin {p : Int} {N : Nat} {S : List (List Int)} {u v w : Nat → Int} (t : Int) (hu : Gen p N S u) (hv : Gen p N S v) (e : ∀ i, i < N → cg p (w i) (u i + t * v i)) : Gen p N S w :=
  (hu.plus (hv.smul t)).congr e

/-- the place of the first number other than 0 -/
def ldN (v : List Int) : Nat := v.findIdx (fun x => !decide (x = 0))
theorem ldN_le (v : List Int) : ldN v ≤ v.length := List.findIdx_le_length
theorem ldN_lt {v : List Int} (h : ldN v < v.length) : gv v (ldN v) ≠ 0 := by
  have t : (!decide (v[ldN v] = 0)) = true := List.findIdx_getElem (p := fun x : Int => !decide (x = 0)) (xs := v) (w := h)
  intro e
  unfold gv at e
  rw [List.getD_eq_getElem?_getD, List.getElem?_eq_getElem h] at e
  rw [Option.getD_some] at e
  rw [e] at t
  simp at t
theorem ldN_pre {v : List Int} {i : Nat} (h : i < ldN v) : gv v i = 0 := by
  have hl : i < v.length := Nat.lt_of_lt_of_le h (ldN_le v)
  have := List.not_of_lt_findIdx (p := fun x : Int => !decide (x = 0)) (xs := v) h
  unfold gv
  rw [List.getD_eq_getElem?_getD, List.getElem?_eq_getElem hl]
  simpa using this
theorem ldN_eq {v : List Int} {k : Nat} (hk : k < v.length) (h1 : gv v k ≠ 0) (h2 : ∀ i, i < k → gv v i = 0) : ldN v = k := by
  have a : ¬ k < ldN v := fun h => h1 (ldN_pre h)
  have b : ¬ ldN v < k := fun h => ldN_lt (by omega) (h2 _ h)
  omega

/-- a row of N numbers modulo p -/
def Vec (p : Int) (N : Nat) (v : List Int) : Prop := v.length = N ∧ ∀ i, i < N → 0 ≤ gv v i ∧ gv v i < p
theorem Vec.ext {p : Int} {N : Nat} {u v : List Int} (hu : Vec p N u) (hv : Vec p N v) (h : ∀ i, i < N → cg p (gv u i) (gv v i)) : u = v := by
  refine List.ext_getElem (by rw [hu.1, hv.1]) fun i h1 h2 => ?_
  have hi : i < N := by rw [← hu.1]; exact h1
  have e := (h i hi).eq (hu.2 i hi).1 (hu.2 i hi).2 (hv.2 i hi).1 (hv.2 i hi).2
  unfold gv at e
  simpa [List.getD_eq_getElem?_getD, List.getElem?_eq_getElem h1, List.getElem?_eq_getElem h2] using e

theorem pair_all {R : List Int → List Int → Prop} {B : List (List Int)} (h : B.Pairwise fun b c => b ≠ c → R b c ∧ R c b) {b c : List Int} (hb : b ∈ B) (hc : c ∈ B) (ne : b ≠ c) : R b c ∧ R c b := by
  induction B with
  | nil => cases hb
  | cons a B ih =>
    rw [List.pairwise_cons] at h
    rcases List.mem_cons.1 hb with e | hb' <;> rcases List.mem_cons.1 hc with e2 | hc'
    · exact absurd (e.trans e2.symm) ne
    · subst e; exact h.1 c hc' ne
    · subst e2; exact (h.1 b hb' ne.symm).symm
    · exact ih h.2 hb' hc'
/-- rows with first numbers 1, that are the only ones other than 0 at their places -/
structure Rdc (p : Int) (N : Nat) (B : List (List Int)) : Prop where
  vec : ∀ b, b ∈ B → Vec p N b
  lt : ∀ b, b ∈ B → ldN b < N
  one : ∀ b, b ∈ B → gv b (ldN b) = 1
  ort : B.Pairwise fun b c => gv b (ldN c) = 0 ∧ gv c (ldN b) = 0
theorem Rdc.zero {p : Int} {N : Nat} {B : List (List Int)} (h : Rdc p N B) {b c : List Int} (hb : b ∈ B) (hc : c ∈ B) (ne : b ≠ c) : gv b (ldN c) = 0 := by
  have h2 : B.Pairwise fun b c => b ≠ c → gv b (ldN c) = 0 ∧ gv c (ldN b) = 0 := List.Pairwise.imp (S := fun b c => b ≠ c → gv b (ldN c) = 0 ∧ gv c (ldN b) = 0) (fun h _ => h) h.ort
  exact (pair_all (R := fun b c => gv b (ldN c) = 0) h2 hb hc ne).1

/-- the rows of B, times the values at their first places -/
def cmbL (B : List (List Int)) (v : Nat → Int) (i : Nat) : Int := (B.map fun b => v (ldN b) * gv b i).sum
theorem cmbL_zero {p : Int} {B : List (List Int)} {v : Nat → Int} {i : Nat} (h : ∀ b, b ∈ B → cg p (v (ldN b) * gv b i) 0) : cg p (cmbL B v i) 0 := by
  induction B with
  | nil => exact cg.refl _ _
  | cons b B ih =>
    have := (h b (by simp)).add (ih fun c hc => h c (by simp [hc]))
    simpa [cmbL] using this
theorem cmbL_lin {p : Int} {B : List (List Int)} {u v : Nat → Int} {w : Nat → Int} (t : Int) (i : Nat) (h : ∀ b, b ∈ B → cg p (w (ldN b)) (u (ldN b) + t * v (ldN b))) : cg p (cmbL B w i) (cmbL B u i + t * cmbL B v i) := by
  induction B with
  | nil => exact cg.of (by simp [cmbL])
  | cons b B ih =>
    have h1 := (h b (by simp)).mulr (gv b i)
    have h2 := h1.add (ih fun c hc => h c (by simp [hc]))
    refine (cg.of (by simp [cmbL])).trans (h2.trans (cg.of ?_))
    simp only [cmbL, List.map_cons, List.sum_cons]
    grind
theorem cmbL_own {p : Int} {N : Nat} {B : List (List Int)} (h : Rdc p N B) {r : List Int} (hr : r ∈ B) (i : Nat) : cmbL B (gv r) i = gv r i := by
  have key : ∀ (B : List (List Int)), (B.Pairwise fun b c => gv b (ldN c) = 0 ∧ gv c (ldN b) = 0) → (∀ b, b ∈ B → gv b (ldN b) = 1) → r ∈ B → cmbL B (gv r) i = gv r i := by
    intro B
    induction B with
    | nil => intro _ _ hr; cases hr
    | cons b B ih =>
      intro hp h1 hr
      rw [List.pairwise_cons] at hp
      have e : cmbL (b :: B) (gv r) i = gv r (ldN b) * gv b i + cmbL B (gv r) i := by simp [cmbL]
      rw [e]
      rcases List.mem_cons.1 hr with rfl | hr
      · rw [h1 r (by simp)]
        have z : ∀ (C : List (List Int)), (∀ c, c ∈ C → gv r (ldN c) = 0) → cmbL C (gv r) i = 0 := by
          intro C
          induction C with
          | nil => intro _; rfl
          | cons c C ih =>
            intro hC
            have : cmbL (c :: C) (gv r) i = gv r (ldN c) * gv c i + cmbL C (gv r) i := by simp [cmbL]
            rw [this, hC c (by simp), ih fun d hd => hC d (by simp [hd])]; simp
        rw [z B fun c hc => (hp.1 c hc).1]; omega
      · rw [(hp.1 r hr).2, ih hp.2 (fun c hc => h1 c (by simp [hc])) hr]; omega
  exact key B h.ort h.one hr
/-- what the rows make is told by its values at their first places -/
theorem Gen.comb {p : Int} {N : Nat} {B : List (List Int)} (h : Rdc p N B) {v : Nat → Int} (hv : Gen p N B v) : ∀ i, i < N → cg p (v i) (cmbL B v i) := by
  induction hv with
  | zero v hz =>
    intro i hi
    refine (hz i hi).trans (cmbL_zero fun b hb => ?_).symm
    have := (hz _ (h.lt b hb)).mulr (gv b i)
    simpa using this
  | add u v r c _ hr e ih =>
    intro i hi
    have h1 := cmbL_lin (w := v) (u := u) (v := gv r) (p := p) c i fun b hb => e _ (h.lt b hb)
    rw [cmbL_own h hr] at h1
    exact (e i hi).trans (((ih i hi).add (cg.refl _ _)).trans h1.symm)
theorem Gen.null {p : Int} {N : Nat} {B : List (List Int)} (h : Rdc p N B) {v : Nat → Int} (hv : Gen p N B v) (hz : ∀ b, b ∈ B → cg p (v (ldN b)) 0) : ∀ i, i < N → cg p (v i) 0 := fun i hi =>
  (hv.comb h i hi).trans (cmbL_zero fun b hb => by have := (hz b hb).mulr (gv b i); simpa using this)
/-- the first place with another number than 0 is that of a row -/
theorem Gen.first {p : Int} {N : Nat} {B : List (List Int)} (h : Rdc p N B) {v : Nat → Int} (hv : Gen p N B v) {k : Nat} (hk : k < N) (h0 : ∀ i, i < k → cg p (v i) 0) (h1 : ¬ cg p (v k) 0) : ∃ b, b ∈ B ∧ ldN b = k := by
  refine Classical.byContradiction fun hn => h1 ((hv.comb h k hk).trans (cmbL_zero fun b hb => ?_))
  by_cases e : ldN b < k
  · have := (h0 _ e).mulr (gv b k); simpa using this
  · have e2 : ldN b ≠ k := fun e2 => hn ⟨b, hb, e2⟩
    rw [ldN_pre (show k < ldN b by omega)]
    exact cg.of (by simp)
theorem sorted_ext : ∀ (l m : List Nat), l.Pairwise (· < ·) → m.Pairwise (· < ·) → (∀ x, x ∈ l ↔ x ∈ m) → l = m := by
  intro l
  induction l with
  | nil =>
    intro m _ _ h
    cases m with
    | nil => rfl
    | cons b m => have := (h b).2 (by simp); simp at this
  | cons a l ih =>
    intro m hl hm h
    cases m with
    | nil => have := (h a).1 (by simp); simp at this
    | cons b m =>
      rw [List.pairwise_cons] at hl hm
      have e : a = b := by
        have h1 := (h a).1 (by simp)
        have h2 := (h b).2 (by simp)
        rcases List.mem_cons.1 h1 with h1 | h1
        · exact h1
        · rcases List.mem_cons.1 h2 with h2 | h2
          · exact h2.symm
          · have := hm.1 a h1; have := hl.1 b h2; omega
      subst e
      rw [ih m hl.2 hm.2 fun x => ?_]
      constructor
      · intro hx
        rcases List.mem_cons.1 ((h x).1 (by simp [hx])) with e | e
        · have := hl.1 x hx; omega
        · exact e
      · intro hx
        rcases List.mem_cons.1 ((h x).2 (by simp [hx])) with e | e
        · have := hm.1 x hx; omega
        · exact e
/-- a space has one reduced basis in order -/
theorem Rdc.unique {p : Int} {N : Nat} {B C : List (List Int)} (h1p : 1 < p) (hB : Rdc p N B) (hC : Rdc p N C) (sB : B.Pairwise fun b c => ldN b < ldN c) (sC : C.Pairwise fun b c => ldN b < ldN c) (h : ∀ v, Gen p N B v ↔ Gen p N C v) : B = C := by
  have one0 : ¬ cg p 1 0 := fun h => by have := h.eq (by omega) h1p (by omega) (by omega); omega
  have hsub : ∀ {B C : List (List Int)}, Rdc p N B → Rdc p N C → (∀ v, Gen p N B v → Gen p N C v) → ∀ x, x ∈ B.map ldN → x ∈ C.map ldN := by
    intro B C hB hC h x hx
    obtain ⟨b, hb, rfl⟩ := List.mem_map.1 hx
    obtain ⟨c, hc, e⟩ := (h _ (Gen.mem hb)).first hC (hB.lt b hb) (fun i hi => cg.of (ldN_pre hi)) (by rw [hB.one b hb]; exact one0)
    exact List.mem_map.2 ⟨c, hc, e⟩
  have hm : B.map ldN = C.map ldN := sorted_ext _ _ (List.pairwise_map.2 sB) (List.pairwise_map.2 sC) fun x => ⟨hsub hB hC (fun v => (h v).1) x, hsub hC hB (fun v => (h v).2) x⟩
  have same : ∀ b c, b ∈ B → c ∈ C → ldN b = ldN c → b = c := by
    intro b c hb hc e
    have hw : Gen p N B (fun i => gv b i + (-1) * gv c i) := Gen.lin (-1) (Gen.mem hb) ((h _).2 (Gen.mem hc)) fun i _ => cg.refl _ _
    have hz := hw.null hB fun d hd => by
      show cg p (gv b (ldN d) + (-1) * gv c (ldN d)) 0
      obtain ⟨d', hd', e'⟩ := List.mem_map.1 (show ldN d ∈ C.map ldN by rw [← hm]; exact List.mem_map.2 ⟨d, hd, rfl⟩)
      by_cases q : ldN d = ldN b
      · rw [q, hB.one b hb, e, hC.one c hc]; exact cg.of (by omega)
      · rw [hB.zero hb hd (fun r => q (by rw [r])), ← e', hC.zero hc hd' (fun r => q (by rw [← e', ← r, e]))]; exact cg.of (by omega)
    refine (hB.vec b hb).ext (hC.vec c hc) fun i hi => ?_
    obtain ⟨k, hk⟩ := hz i hi
    exact ⟨k, by omega⟩
  have hl : B.length = C.length := by have := congrArg List.length hm; simpa using this
  refine List.ext_getElem hl fun i h1 h2 => same _ _ (List.getElem_mem h1) (List.getElem_mem h2) ?_
  have := congrArg (fun l => l[i]?) hm
  simpa [List.getElem?_map, List.getElem?_eq_getElem h1, List.getElem?_eq_getElem h2] using this
/-- a row, and t times another one, modulo p -/
def addL (p t : Int) (a b : List Int) : List Int := (List.range a.length).map fun i => (gv a i + t * gv b i) % p
theorem addL_len (p t : Int) (a b : List Int) : (addL p t a b).length = a.length := by simp [addL]
theorem gv_map {n i : Nat} (f : Nat → Int) (h : i < n) : gv ((List.range n).map f) i = f i := by
  unfold gv; rw [List.getD_eq_getElem?_getD, List.getElem?_eq_getElem (by simpa using h)]; simp
theorem addL_gv {p t : Int} {a b : List Int} {i : Nat} (h : i < a.length) : gv (addL p t a b) i = (gv a i + t * gv b i) % p := gv_map _ h
theorem addL_vec {p t : Int} {N : Nat} {a b : List Int} (hp : 0 < p) (h : a.length = N) : Vec p N (addL p t a b) :=
  ⟨by rw [addL_len, h], fun i hi => by rw [addL_gv (by omega)]; exact ⟨Int.emod_nonneg _ (by omega), Int.emod_lt_of_pos _ hp⟩⟩
theorem addL_cg (p t : Int) {a b : List Int} {i : Nat} (h : i < a.length) : cg p (gv (addL p t a b) i) (gv a i + t * gv b i) := by rw [addL_gv h]; exact cg.mod _ _
/-- a row times a number -/
def sclL (p t : Int) (a : List Int) : List Int := (List.range a.length).map fun i => gv a i * t % p
theorem sclL_len (p t : Int) (a : List Int) : (sclL p t a).length = a.length := by simp [sclL]
theorem sclL_gv {p t : Int} {a : List Int} {i : Nat} (h : i < a.length) : gv (sclL p t a) i = gv a i * t % p := gv_map _ h
theorem sclL_vec {p t : Int} {N : Nat} {a : List Int} (hp : 0 < p) (h : a.length = N) : Vec p N (sclL p t a) :=
  ⟨by rw [sclL_len, h], fun i hi => by rw [sclL_gv (by omega)]; exact ⟨Int.emod_nonneg _ (by omega), Int.emod_lt_of_pos _ hp⟩⟩

/-- a row without what the rows of B take away -/
def rdcL (p : Int) (B : List (List Int)) (r : List Int) : List Int := B.foldl (fun r b => if gv r (ldN b) = 0 then r else addL p (p - gv r (ldN b)) r b) r
/-- a number whose product with a is 1 -/
def IsInv (p a c : Int) : Prop := a * c % p = 1
/-- a row joins a reduced basis -/
def insL (p : Int) (inv : Int → Int) (B : List (List Int)) (r : List Int) : List (List Int) :=
  if ldN (rdcL p B r) = (rdcL p B r).length then B
  else B.map (fun b => if gv b (ldN (rdcL p B r)) = 0 then b else addL p (p - gv b (ldN (rdcL p B r))) b (sclL p (inv (gv (rdcL p B r) (ldN (rdcL p B r)))) (rdcL p B r))) ++ [sclL p (inv (gv (rdcL p B r) (ldN (rdcL p B r)))) (rdcL p B r)]

theorem rdc_key {p : Int} {N : Nat} {B : List (List Int)} (h1p : 1 < p) (h : Rdc p N B) : ∀ (Q P : List (List Int)) (r : List Int), P ++ Q = B → Vec p N r → (∀ b, b ∈ P → gv r (ldN b) = 0) →
    Vec p N (rdcL p Q r) ∧ (∀ b, b ∈ B → gv (rdcL p Q r) (ldN b) = 0) ∧ ∃ g, Gen p N B g ∧ ∀ i, i < N → cg p (gv (rdcL p Q r) i) (gv r i + g i) := by
  intro Q
  induction Q with
  | nil =>
    intro P r e hr hz
    rw [List.append_nil] at e; subst e
    exact ⟨hr, hz, fun _ => 0, .zero _ fun i _ => cg.refl _ _, fun i _ => cg.of (by simp [rdcL])⟩
  | cons b Q ih =>
    intro P r e hr hz
    have hb : b ∈ B := by rw [← e]; simp
    have hlt := h.lt b hb
    have e' : (P ++ [b]) ++ Q = B := by rw [← e]; simp
    have hPb : ∀ c, c ∈ P → gv b (ldN c) = 0 := by
      intro c hc
      have hp := h.ort
      rw [← e, List.pairwise_append] at hp
      exact (hp.2.2 c hc b (by simp)).2
    by_cases c0 : gv r (ldN b) = 0
    · have er : rdcL p (b :: Q) r = rdcL p Q r := by simp [rdcL, c0]
      rw [er]
      refine ih (P ++ [b]) r e' hr fun c hc => ?_
      rcases List.mem_append.1 hc with hc | hc
      · exact hz c hc
      · rw [List.mem_singleton.1 hc]; exact c0
    · have er : rdcL p (b :: Q) r = rdcL p Q (addL p (p - gv r (ldN b)) r b) := by simp [rdcL, c0]
      rw [er]
      obtain ⟨h1, h2, g, hg, h3⟩ := ih (P ++ [b]) (addL p (p - gv r (ldN b)) r b) e' (addL_vec (by omega) hr.1) fun c hc => by
        have hcB : c ∈ B := by rw [← e']; exact List.mem_append_left _ hc
        rw [addL_gv (by rw [hr.1]; exact h.lt c hcB)]
        rcases List.mem_append.1 hc with hc | hc
        · rw [hz c hc, hPb c hc]; simp
        · rw [List.mem_singleton.1 hc, h.one b hb, Int.mul_one, show gv r (ldN b) + (p - gv r (ldN b)) = p by omega, Int.emod_self]
      refine ⟨h1, h2, fun i => (p - gv r (ldN b)) * gv b i + g i, ((Gen.mem hb).smul _).plus hg, fun i hi => ?_⟩
      have := (h3 i hi).trans ((addL_cg p (p - gv r (ldN b)) (b := b) (by rw [hr.1]; exact hi)).add (cg.refl p (g i)))
      rwa [Int.add_assoc] at this

theorem ins_key {p : Int} {N : Nat} {inv : Int → Int} {B S : List (List Int)} {r : List Int} (h1p : 1 < p) (hi : ∀ a, 0 < a → a < p → IsInv p a (inv a)) (h : Rdc p N B) (hG : ∀ v, Gen p N B v ↔ Gen p N S v) (hr : Vec p N r) :
    Rdc p N (insL p inv B r) ∧ ∀ v, Gen p N (insL p inv B r) v ↔ Gen p N (S ++ [r]) v := by
  obtain ⟨h1, h2, g, hg, h3⟩ := rdc_key h1p h B [] r rfl hr (fun b hb => by cases hb)
  have monoS : ∀ v, Gen p N S v → Gen p N (S ++ [r]) v := fun v hv => Gen.sub (fun s hs => Gen.mem (List.mem_append_left _ hs)) hv
  unfold insL
  generalize hR : rdcL p B r = R at *
  have hRl := h1.1
  by_cases c : ldN R = R.length
  · rw [if_pos c]
    refine ⟨h, fun v => ⟨fun hv => monoS v ((hG v).1 hv), fun hv => Gen.sub (fun s hs => ?_) hv⟩⟩
    rcases List.mem_append.1 hs with hs | hs
    · exact (hG _).2 (Gen.mem hs)
    · rw [List.mem_singleton.1 hs]
      refine (hg.smul (-1)).congr fun i hi => ?_
      have h0 := h3 i hi
      rw [ldN_pre (v := R) (i := i) (by omega)] at h0
      obtain ⟨k, hk⟩ := h0
      exact ⟨-k, by grind⟩
  · rw [if_neg c]
    have hlt : ldN R < R.length := by have := ldN_le R; omega
    have hltN : ldN R < N := by omega
    have ha0 := ldN_lt hlt
    have hab := h1.2 _ hltN
    have hinv := hi _ (show 0 < gv R (ldN R) by omega) hab.2
    unfold IsInv at hinv
    generalize hA : ldN R = A at *
    obtain ⟨a, ha⟩ : ∃ a, gv R A = a := ⟨_, rfl⟩
    rw [ha] at hinv ha0 hab ⊢
    generalize inv a = t at *
    obtain ⟨T, hT⟩ : ∃ T, sclL p t R = T := ⟨_, rfl⟩
    have hTv : Vec p N T := hT ▸ sclL_vec (by omega) hRl
    have hTg : ∀ i, i < N → gv T i = gv R i * t % p := fun i hi => hT ▸ sclL_gv (by omega)
    have hRA : ∀ i, i < A → gv R i = 0 := fun i hi => ldN_pre (by omega)
    have hTA : gv T A = 1 := by rw [hTg A hltN, ha, hinv]
    have hT0 : ∀ i, i < A → gv T i = 0 := fun i hi => by rw [hTg i (by omega), hRA i hi]; simp
    have hTl : ldN T = A := ldN_eq (by rw [hTv.1]; exact hltN) (by rw [hTA]; omega) hT0
    have hTB : ∀ b, b ∈ B → gv T (ldN b) = 0 := fun b hb => by rw [hTg _ (h.lt b hb), h2 b hb]; simp
    rw [hT]
    obtain ⟨f, hf⟩ : ∃ f : List Int → List Int, f = fun b => if gv b A = 0 then b else addL p (p - gv b A) b T := ⟨_, rfl⟩
    rw [show (fun b => if gv b A = 0 then b else addL p (p - gv b A) b T) = f from hf.symm]
    have F : ∀ b, b ∈ B → Vec p N (f b) ∧ gv (f b) A = 0 ∧ ldN (f b) = ldN b ∧ (∀ c, c ∈ B → gv (f b) (ldN c) = gv b (ldN c)) ∧ ∃ u, ∀ i, i < N → cg p (gv (f b) i) (gv b i + u * gv T i) := by
      intro b hb
      have hbv := h.vec b hb
      by_cases b0 : gv b A = 0
      · have e : f b = b := by rw [hf]; simp [b0]
        rw [e]
        exact ⟨hbv, b0, rfl, fun c _ => rfl, 0, fun i _ => cg.of (by simp)⟩
      · have e : f b = addL p (p - gv b A) b T := by rw [hf]; simp [b0]
        have hlb : ldN b < A := by
          have n1 : ¬ A < ldN b := fun q => b0 (ldN_pre q)
          have n2 : ldN b ≠ A := fun q => by have := h2 b hb; rw [q, ha] at this; exact ha0 this
          omega
        have hg : ∀ i, i < N → gv (f b) i = (gv b i + (p - gv b A) * gv T i) % p := fun i hi => by rw [e]; exact addL_gv (by rw [hbv.1]; exact hi)
        have hs : ∀ i, i < N → gv T i = 0 → gv (f b) i = gv b i := fun i hi q => by
          rw [hg i hi, q, Int.mul_zero, Int.add_zero, Int.emod_eq_of_lt (hbv.2 i hi).1 (hbv.2 i hi).2]
        have hv : Vec p N (f b) := by rw [e]; exact addL_vec (by omega) hbv.1
        refine ⟨hv, ?_, ?_, fun c hc => hs _ (h.lt c hc) (hTB c hc), p - gv b A, fun i hi => by rw [hg i hi]; exact cg.mod _ _⟩
        · rw [hg A hltN, hTA, Int.mul_one, show gv b A + (p - gv b A) = p by omega, Int.emod_self]
        · refine ldN_eq (by rw [hv.1]; exact h.lt b hb) ?_ fun i hi => ?_
          · rw [hs _ (h.lt b hb) (hTB b hb), h.one b hb]; omega
          · rw [hs i (by omega) (hT0 i (by omega))]; exact ldN_pre hi
    refine ⟨⟨fun c hc => ?_, fun c hc => ?_, fun c hc => ?_, ?_⟩, fun v => ⟨fun hv => ?_, fun hv => ?_⟩⟩
    · rcases List.mem_append.1 hc with hc | hc
      · obtain ⟨b, hb, rfl⟩ := List.mem_map.1 hc
        exact (F b hb).1
      · rw [List.mem_singleton.1 hc]; exact hTv
    · rcases List.mem_append.1 hc with hc | hc
      · obtain ⟨b, hb, rfl⟩ := List.mem_map.1 hc
        rw [(F b hb).2.2.1]; exact h.lt b hb
      · rw [List.mem_singleton.1 hc, hTl]; exact hltN
    · rcases List.mem_append.1 hc with hc | hc
      · obtain ⟨b, hb, rfl⟩ := List.mem_map.1 hc
        rw [(F b hb).2.2.1, (F b hb).2.2.2.1 b hb]; exact h.one b hb
      · rw [List.mem_singleton.1 hc, hTl]; exact hTA
    · refine List.pairwise_append.2 ⟨List.pairwise_map.2 (h.ort.imp_of_mem fun {b c} hb hc q => ?_), List.pairwise_singleton _ _, fun c hc d hd => ?_⟩
      · rw [(F b hb).2.2.1, (F c hc).2.2.1, (F b hb).2.2.2.1 c hc, (F c hc).2.2.2.1 b hb]; exact q
      · obtain ⟨b, hb, rfl⟩ := List.mem_map.1 hc
        rw [List.mem_singleton.1 hd, hTl, (F b hb).2.2.1]
        exact ⟨(F b hb).2.1, hTB b hb⟩
    · have gR : Gen p N (S ++ [r]) (gv R) := ((Gen.mem (List.mem_append_right _ (List.mem_singleton.2 rfl))).plus (monoS _ ((hG _).1 hg))).congr h3
      have gT : Gen p N (S ++ [r]) (gv T) := (gR.smul t).congr fun i hi => by rw [hTg i hi, Int.mul_comm t]; exact cg.mod _ _
      refine Gen.sub (fun c hc => ?_) hv
      rcases List.mem_append.1 hc with hc | hc
      · obtain ⟨b, hb, rfl⟩ := List.mem_map.1 hc
        obtain ⟨u, hu⟩ := (F b hb).2.2.2.2
        exact Gen.lin u (monoS _ ((hG _).1 (Gen.mem hb))) gT hu
      · rw [List.mem_singleton.1 hc]; exact gT
    · have gT : Gen p N (B.map f ++ [T]) (gv T) := Gen.mem (List.mem_append_right _ (List.mem_singleton.2 rfl))
      have gB : ∀ v, Gen p N B v → Gen p N (B.map f ++ [T]) v := fun v hv => Gen.sub (fun b hb => by
        obtain ⟨u, hu⟩ := (F b hb).2.2.2.2
        refine Gen.lin (-u) (Gen.mem (List.mem_append_left _ (List.mem_map.2 ⟨b, hb, rfl⟩))) gT fun i hi => ?_
        obtain ⟨k, hk⟩ := hu i hi
        exact ⟨-k, by grind⟩) hv
      refine Gen.sub (fun s hs => ?_) hv
      rcases List.mem_append.1 hs with hs | hs
      · exact gB _ ((hG _).2 (Gen.mem hs))
      · rw [List.mem_singleton.1 hs]
        have gR : Gen p N (B.map f ++ [T]) (gv R) := (gT.smul a).congr fun i hi => by
          obtain ⟨k, hk⟩ := cg.mod p (gv R i * t)
          obtain ⟨l, hl⟩ := cg.mod p (a * t)
          rw [hTg i hi]
          exact ⟨gv R i * l - a * k, by grind⟩
        refine Gen.lin (-1) gR (gB _ hg) fun i hi => ?_
        obtain ⟨k, hk⟩ := h3 i hi
        exact ⟨-k, by grind⟩
/-- the reduced basis that rows make, one after the other -/
def basL (p : Int) (inv : Int → Int) (rows : List (List Int)) : List (List Int) := rows.foldl (insL p inv) []
theorem bas_key {p : Int} {N : Nat} {inv : Int → Int} (h1p : 1 < p) (hi : ∀ a, 0 < a → a < p → IsInv p a (inv a)) : ∀ (rows B S : List (List Int)), Rdc p N B → (∀ v, Gen p N B v ↔ Gen p N S v) → (∀ r, r ∈ rows → Vec p N r) →
    Rdc p N (rows.foldl (insL p inv) B) ∧ ∀ v, Gen p N (rows.foldl (insL p inv) B) v ↔ Gen p N (S ++ rows) v := by
  intro rows
  induction rows with
  | nil => intro B S h hG _; rw [List.append_nil]; exact ⟨h, hG⟩
  | cons r rows ih =>
    intro B S h hG hr
    obtain ⟨h1, h2⟩ := ins_key h1p hi h hG (hr r (by simp))
    have := ih _ _ h1 h2 fun r hr' => hr r (by simp [hr'])
    rwa [List.append_assoc] at this
theorem bas_ok {p : Int} {N : Nat} {inv : Int → Int} (h1p : 1 < p) (hi : ∀ a, 0 < a → a < p → IsInv p a (inv a)) {rows : List (List Int)} (hr : ∀ r, r ∈ rows → Vec p N r) :
    Rdc p N (basL p inv rows) ∧ ∀ v, Gen p N (basL p inv rows) v ↔ Gen p N rows v :=
  bas_key h1p hi rows [] [] ⟨fun b hb => (by cases hb), fun b hb => (by cases hb), fun b hb => (by cases hb), List.Pairwise.nil⟩ (fun v => Iff.rfl) hr

/-- a row without its number at a place -/
def clrL (p : Int) (k : Nat) (T r : List Int) : List Int := if gv r k = 0 then r else addL p (p - gv r k) r T
theorem clr_key {p : Int} {N k : Nat} {T r : List Int} (h1p : 1 < p) (hk : k < N) (hr : Vec p N r) (h1 : gv T k = 1) (h0 : ∀ i, i < k → gv T i = 0) :
    Vec p N (clrL p k T r) ∧ gv (clrL p k T r) k = 0 ∧ (∀ i, i < N → gv T i = 0 → gv (clrL p k T r) i = gv r i) ∧ ∃ u, ∀ i, i < N → cg p (gv (clrL p k T r) i) (gv r i + u * gv T i) := by
  unfold clrL
  by_cases c : gv r k = 0
  · rw [if_pos c]
    exact ⟨hr, c, fun i _ _ => rfl, 0, fun i _ => cg.of (by simp)⟩
  · rw [if_neg c]
    have hg : ∀ i, i < N → gv (addL p (p - gv r k) r T) i = (gv r i + (p - gv r k) * gv T i) % p := fun i hi => addL_gv (by rw [hr.1]; exact hi)
    refine ⟨addL_vec (by omega) hr.1, ?_, fun i hi q => ?_, p - gv r k, fun i hi => by rw [hg i hi]; exact cg.mod _ _⟩
    · rw [hg k hk, h1, Int.mul_one, show gv r k + (p - gv r k) = p by omega, Int.emod_self]
    · rw [hg i hi, q, Int.mul_zero, Int.add_zero, Int.emod_eq_of_lt (hr.2 i hi).1 (hr.2 i hi).2]
/-- the first row with a number other than 0 at a place -/
def fndL (k : Nat) (Q : List (List Int)) : Nat := Q.findIdx (fun r => !decide (gv r k = 0))
/-- a column of the elimination: the rows that are done, and the others -/
def echS (p : Int) (inv : Int → Int) (N : Nat) (s : List (List Int) × List (List Int)) (k : Nat) : List (List Int) × List (List Int) :=
  if fndL k s.2 = s.2.length then s
  else
    let R := s.2.getD (fndL k s.2) []
    let T := addL p (p - (p - inv (gv R k))) (List.replicate N 0) R
    (s.1.map (clrL p k T) ++ [T], ((s.2.set (fndL k s.2) (s.2.getD 0 [])).drop 1).map (clrL p k T))
def echL (p : Int) (inv : Int → Int) (N : Nat) (rows : List (List Int)) : List (List Int) := ((List.range N).foldl (echS p inv N) ([], rows)).1

structure EchI (p : Int) (N : Nat) (rows : List (List Int)) (k : Nat) (s : List (List Int) × List (List Int)) : Prop where
  rdc : Rdc p N s.1
  inc : s.1.Pairwise fun b c => ldN b < ldN c
  low : ∀ b, b ∈ s.1 → ldN b < k
  vec : ∀ r, r ∈ s.2 → Vec p N r
  zer : ∀ r, r ∈ s.2 → ∀ i, i < k → gv r i = 0
  gen : ∀ v, Gen p N (s.1 ++ s.2) v ↔ Gen p N rows v

theorem mem_swap {Q : List (List Int)} {k : Nat} (hk : k < Q.length) (r : List Int) : r ∈ Q ↔ r = Q.getD k [] ∨ r ∈ (Q.set k (Q.getD 0 [])).drop 1 := by
  cases Q with
  | nil => simp at hk
  | cons a Q =>
    cases k with
    | zero => simp
    | succ k =>
      have hk' : k < Q.length := by simpa using hk
      simp only [List.set_cons_succ, List.drop_succ_cons, List.drop_zero, List.getD_cons_zero, List.getD_cons_succ, List.mem_cons]
      rw [List.getD_eq_getElem?_getD, List.getElem?_eq_getElem hk', Option.getD_some]
      constructor
      · rintro (rfl | h)
        · exact .inr (List.mem_iff_getElem.2 ⟨k, by simpa using hk', by simp⟩)
        · obtain ⟨i, hi, rfl⟩ := List.mem_iff_getElem.1 h
          by_cases e : i = k
          · subst e; exact .inl rfl
          · exact .inr (List.mem_iff_getElem.2 ⟨i, by simpa using hi, by rw [List.getElem_set_ne (by omega)]⟩)
      · rintro (rfl | h)
        · exact .inr (List.getElem_mem hk')
        · rcases List.mem_or_eq_of_mem_set h with h | h
          · exact .inr h
          · exact .inl h

theorem ech_step {p : Int} {N k : Nat} {inv : Int → Int} {rows : List (List Int)} {s : List (List Int) × List (List Int)} (h1p : 1 < p) (hi : ∀ a, 0 < a → a < p → IsInv p a (inv a)) (hk : k < N) (h : EchI p N rows k s) : EchI p N rows (k + 1) (echS p inv N s k) := by
  obtain ⟨P, Q⟩ := s
  obtain ⟨rdc, inc, low, vec, zer, gen⟩ := h
  simp only at rdc inc low vec zer gen
  unfold echS
  simp only
  by_cases c : fndL k Q = Q.length
  · rw [if_pos c]
    refine ⟨rdc, inc, fun b hb => Nat.lt_succ_of_lt (low b hb), vec, fun r hr i hi => ?_, gen⟩
    by_cases e : i = k
    · subst e
      have := List.findIdx_eq_length.1 c r hr
      simpa using this
    · exact zer r hr i (by omega)
  · rw [if_neg c]
    have hlt : fndL k Q < Q.length := by
      have : fndL k Q ≤ Q.length := List.findIdx_le_length
      omega
    obtain ⟨R, hR⟩ : ∃ R, Q.getD (fndL k Q) [] = R := ⟨_, rfl⟩
    have hRQ : R ∈ Q := by rw [← hR, List.getD_eq_getElem?_getD, List.getElem?_eq_getElem hlt]; exact List.getElem_mem hlt
    have hRk : gv R k ≠ 0 := by
      have t : (!decide (gv Q[fndL k Q] k = 0)) = true := List.findIdx_getElem (p := fun r => !decide (gv r k = 0)) (xs := Q) (w := hlt)
      rw [← hR, List.getD_eq_getElem?_getD, List.getElem?_eq_getElem hlt, Option.getD_some]
      simpa using t
    have hRv := vec R hRQ
    have hRz := zer R hRQ
    obtain ⟨a, ha⟩ : ∃ a, gv R k = a := ⟨_, rfl⟩
    have hab := hRv.2 k hk
    rw [ha] at hRk hab
    have hinv := hi a (by omega) hab.2
    unfold IsInv at hinv
    rw [hR, ha]
    generalize inv a = t at *
    have hpt : p - (p - t) = t := by omega
    rw [hpt]
    obtain ⟨T, hT⟩ : ∃ T, addL p t (List.replicate N 0) R = T := ⟨_, rfl⟩
    rw [hT]
    have hTv : Vec p N T := hT ▸ addL_vec (by omega) (by simp)
    have hTg : ∀ i, i < N → gv T i = t * gv R i % p := fun i hi => by
      rw [← hT, addL_gv (by simpa using hi)]
      have : gv (List.replicate N 0) i = 0 := by unfold gv; simp [List.getD_eq_getElem?_getD, hi]
      rw [this, Int.zero_add]
    have hT1 : gv T k = 1 := by rw [hTg k hk, ha, Int.mul_comm]; exact hinv
    have hT0 : ∀ i, i < k → gv T i = 0 := fun i hi => by rw [hTg i (by omega), hRz i hi]; simp
    have hTl : ldN T = k := ldN_eq (by rw [hTv.1]; exact hk) (by rw [hT1]; omega) hT0
    obtain ⟨Q', hQ'⟩ : ∃ Q', (Q.set (fndL k Q) (Q.getD 0 [])).drop 1 = Q' := ⟨_, rfl⟩
    have hmem : ∀ r, r ∈ Q ↔ r = R ∨ r ∈ Q' := fun r => by rw [← hQ', ← hR]; exact mem_swap hlt r
    rw [hQ']
    have hQv : ∀ r, r ∈ Q' → Vec p N r := fun r hr => vec r ((hmem r).2 (.inr hr))
    have hQz : ∀ r, r ∈ Q' → ∀ i, i < k → gv r i = 0 := fun r hr => zer r ((hmem r).2 (.inr hr))
    have F : ∀ r, Vec p N r → Vec p N (clrL p k T r) ∧ gv (clrL p k T r) k = 0 ∧ (∀ i, i < N → gv T i = 0 → gv (clrL p k T r) i = gv r i) ∧ ∃ u, ∀ i, i < N → cg p (gv (clrL p k T r) i) (gv r i + u * gv T i) := fun r hr => clr_key h1p hk hr hT1 hT0
    have hld : ∀ b, b ∈ P → ldN (clrL p k T b) = ldN b ∧ ∀ c, c ∈ P → gv (clrL p k T b) (ldN c) = gv b (ldN c) := by
      intro b hb
      obtain ⟨f1, f2, f3, f4⟩ := F b (rdc.vec b hb)
      have hs : ∀ c, c ∈ P → gv (clrL p k T b) (ldN c) = gv b (ldN c) := fun c hc => f3 _ (rdc.lt c hc) (hT0 _ (low c hc))
      refine ⟨ldN_eq (by rw [f1.1]; exact rdc.lt b hb) (by rw [hs b hb, rdc.one b hb]; omega) fun i hi => ?_, hs⟩
      have := low b hb
      rw [f3 i (by omega) (hT0 i (by omega))]; exact ldN_pre hi
    have gRT : ∀ {S : List (List Int)}, Gen p N S (gv R) → Gen p N S (gv T) := fun h => (h.smul t).congr fun i hi => by rw [hTg i hi]; exact cg.mod _ _
    have gTR : ∀ {S : List (List Int)}, Gen p N S (gv T) → Gen p N S (gv R) := fun h => (h.smul a).congr fun i hi => by
      obtain ⟨x, hx⟩ := cg.mod p (t * gv R i)
      obtain ⟨l, hl⟩ := cg.mod p (a * t)
      rw [hTg i hi]
      exact ⟨gv R i * l - a * x, by grind⟩
    refine ⟨⟨fun c hc => ?_, fun c hc => ?_, fun c hc => ?_, ?_⟩, ?_, fun c hc => ?_, fun c hc => ?_, fun c hc i hi => ?_, fun v => (Iff.trans ⟨fun hv => ?_, fun hv => ?_⟩ (gen v))⟩
    · rcases List.mem_append.1 hc with hc | hc
      · obtain ⟨b, hb, rfl⟩ := List.mem_map.1 hc
        exact (F b (rdc.vec b hb)).1
      · rw [List.mem_singleton.1 hc]; exact hTv
    · rcases List.mem_append.1 hc with hc | hc
      · obtain ⟨b, hb, rfl⟩ := List.mem_map.1 hc
        rw [(hld b hb).1]; exact rdc.lt b hb
      · rw [List.mem_singleton.1 hc, hTl]; exact hk
    · rcases List.mem_append.1 hc with hc | hc
      · obtain ⟨b, hb, rfl⟩ := List.mem_map.1 hc
        rw [(hld b hb).1, (hld b hb).2 b hb]; exact rdc.one b hb
      · rw [List.mem_singleton.1 hc, hTl]; exact hT1
    · refine List.pairwise_append.2 ⟨List.pairwise_map.2 (rdc.ort.imp_of_mem fun {b c} hb hc q => ?_), List.pairwise_singleton _ _, fun c hc d hd => ?_⟩
      · rw [(hld b hb).1, (hld c hc).1, (hld b hb).2 c hc, (hld c hc).2 b hb]; exact q
      · obtain ⟨b, hb, rfl⟩ := List.mem_map.1 hc
        rw [List.mem_singleton.1 hd, hTl, (hld b hb).1]
        exact ⟨(F b (rdc.vec b hb)).2.1, hT0 _ (low b hb)⟩
    · refine List.pairwise_append.2 ⟨List.pairwise_map.2 (inc.imp_of_mem fun {b c} hb hc q => ?_), List.pairwise_singleton _ _, fun c hc d hd => ?_⟩
      · rw [(hld b hb).1, (hld c hc).1]; exact q
      · obtain ⟨b, hb, rfl⟩ := List.mem_map.1 hc
        rw [List.mem_singleton.1 hd, hTl, (hld b hb).1]; exact low b hb
    · rcases List.mem_append.1 hc with hc | hc
      · obtain ⟨b, hb, rfl⟩ := List.mem_map.1 hc
        rw [(hld b hb).1]; have := low b hb; omega
      · rw [List.mem_singleton.1 hc, hTl]; omega
    · obtain ⟨r, hr, rfl⟩ := List.mem_map.1 hc
      exact (F r (hQv r hr)).1
    · obtain ⟨r, hr, rfl⟩ := List.mem_map.1 hc
      obtain ⟨f1, f2, f3, f4⟩ := F r (hQv r hr)
      by_cases e : i = k
      · rw [e]; exact f2
      · rw [f3 i (by omega) (hT0 i (by omega))]; exact hQz r hr i (by omega)
    · have gR : Gen p N (P ++ Q) (gv R) := Gen.mem (List.mem_append_right _ hRQ)
      have gF : ∀ r, r ∈ P ++ Q → Vec p N r → Gen p N (P ++ Q) (gv (clrL p k T r)) := fun r hr hv => by
        obtain ⟨u, hu⟩ := (F r hv).2.2.2
        exact Gen.lin u (Gen.mem hr) (gRT gR) hu
      refine Gen.sub (fun c hc => ?_) hv
      rcases List.mem_append.1 hc with hc | hc
      · rcases List.mem_append.1 hc with hc | hc
        · obtain ⟨b, hb, rfl⟩ := List.mem_map.1 hc
          exact gF b (List.mem_append_left _ hb) (rdc.vec b hb)
        · rw [List.mem_singleton.1 hc]; exact gRT gR
      · obtain ⟨r, hr, rfl⟩ := List.mem_map.1 hc
        exact gF r (List.mem_append_right _ ((hmem r).2 (.inr hr))) (hQv r hr)
    · obtain ⟨S, hS⟩ : ∃ S, P.map (clrL p k T) ++ [T] ++ Q'.map (clrL p k T) = S := ⟨_, rfl⟩
      rw [hS]
      have gT : Gen p N S (gv T) := Gen.mem (by rw [← hS]; simp)
      have gF : ∀ r, clrL p k T r ∈ S → Vec p N r → Gen p N S (gv r) := fun r hr hv => by
        obtain ⟨u, hu⟩ := (F r hv).2.2.2
        refine Gen.lin (-u) (Gen.mem hr) gT fun i hi => ?_
        obtain ⟨x, hx⟩ := hu i hi
        exact ⟨-x, by grind⟩
      refine Gen.sub (fun c hc => ?_) hv
      rcases List.mem_append.1 hc with hc | hc
      · refine gF c ?_ (rdc.vec c hc)
        rw [← hS, List.append_assoc]
        exact List.mem_append_left _ (List.mem_map.2 ⟨c, hc, rfl⟩)
      · rcases (hmem c).1 hc with rfl | hc
        · exact gTR gT
        · refine gF c ?_ (hQv c hc)
          rw [← hS]
          exact List.mem_append_right _ (List.mem_map.2 ⟨c, hc, rfl⟩)
theorem ech_inv {p : Int} {N : Nat} {inv : Int → Int} {rows : List (List Int)} (h1p : 1 < p) (hi : ∀ a, 0 < a → a < p → IsInv p a (inv a)) (hr : ∀ r, r ∈ rows → Vec p N r) : ∀ k, k ≤ N → EchI p N rows k ((List.range k).foldl (echS p inv N) ([], rows)) := by
  intro k
  induction k with
  | zero =>
    intro _
    exact ⟨⟨fun b hb => (by cases hb), fun b hb => (by cases hb), fun b hb => (by cases hb), List.Pairwise.nil⟩, List.Pairwise.nil, fun b hb => (by cases hb), hr, fun r _ i hi => absurd hi (by omega), fun v => (by simp)⟩
  | succ k ih =>
    intro hk
    rw [List.range_succ, List.foldl_append, List.foldl_cons, List.foldl_nil]
    exact ech_step h1p hi (by omega) (ih (by omega))
theorem ech_ok {p : Int} {N : Nat} {inv : Int → Int} {rows : List (List Int)} (h1p : 1 < p) (hi : ∀ a, 0 < a → a < p → IsInv p a (inv a)) (hr : ∀ r, r ∈ rows → Vec p N r) :
    Rdc p N (echL p inv N rows) ∧ ((echL p inv N rows).Pairwise fun b c => ldN b < ldN c) ∧ ∀ v, Gen p N (echL p inv N rows) v ↔ Gen p N rows v := by
  have h := ech_inv h1p hi hr N (Nat.le_refl _)
  unfold echL
  generalize (List.range N).foldl (echS p inv N) ([], rows) = s at *
  refine ⟨h.rdc, h.inc, fun v => (Iff.trans ⟨fun hv => Gen.sub (fun r hr => Gen.mem (List.mem_append_left _ hr)) hv, fun hv => Gen.sub (fun r hr => ?_) hv⟩ (h.gen v))⟩
  rcases List.mem_append.1 hr with hr | hr
  · exact Gen.mem hr
  · exact .zero _ fun i hi => cg.of (h.zer r hr i hi)
/-- both ways to a reduced basis lead to the same one -/
theorem bas_ech {p : Int} {N : Nat} {inv : Int → Int} {rows B : List (List Int)} (h1p : 1 < p) (hi : ∀ a, 0 < a → a < p → IsInv p a (inv a)) (hr : ∀ r, r ∈ rows → Vec p N r) (hB : B.Perm (basL p inv rows)) (hs : B.Pairwise fun b c => ldN b ≤ ldN c) : B = echL p inv N rows := by
  obtain ⟨h1, h2⟩ := bas_ok h1p hi hr
  obtain ⟨h3, h4, h5⟩ := ech_ok h1p hi hr
  have hR : Rdc p N B := ⟨fun b hb => h1.vec b (hB.mem_iff.1 hb), fun b hb => h1.lt b (hB.mem_iff.1 hb), fun b hb => h1.one b (hB.mem_iff.1 hb), (hB.pairwise_iff (fun {x y} hxy => hxy.symm)).2 h1.ort⟩
  refine Rdc.unique h1p hR h3 ?_ h4 fun v => ?_
  · have hand := hs.and hR.ort
    refine hand.imp_of_mem fun {b c} hb hc q => ?_
    have : ldN b ≠ ldN c := fun e => by have h6 := hR.one c hc; rw [← e] at h6; rw [q.2.2] at h6; omega
    have := q.1
    omega
  · rw [h5 v, ← h2 v]
    exact ⟨fun hv => Gen.sub (fun r hr => Gen.mem (hB.mem_iff.1 hr)) hv, fun hv => Gen.sub (fun r hr => Gen.mem (hB.mem_iff.2 hr)) hv⟩

/-- in order, by first places -/
theorem cmp_ld {p : Int} {N : Nat} {b c : List Int} (hb : Vec p N b) (hc : Vec p N c) (h1 : gv c (ldN c) = 1) (h : ldN c < ldN b) : cmpL b c < 0 := by
  have key : ∀ (k : Nat) (b c : List Int), b.length = c.length → k < b.length → (∀ i, i < k → gv b i = gv c i) → gv b k < gv c k → cmpL b c = -1 := by
    intro k
    induction k with
    | zero =>
      intro b c hl hk _ hlt
      cases b with
      | nil => simp at hk
      | cons x b =>
        cases c with
        | nil => simp at hl
        | cons y c =>
          have : x < y := by simpa [gv] using hlt
          unfold cmpL cmpG cmpI
          rw [if_pos this, if_neg (by omega)]
    | succ k ih =>
      intro b c hl hk he hlt
      cases b with
      | nil => simp at hk
      | cons x b =>
        cases c with
        | nil => simp at hl
        | cons y c =>
          have e : x = y := by simpa [gv] using he 0 (by omega)
          have e2 : cmpI x y = 0 := cmpI_eq.2 e
          unfold cmpL cmpG
          rw [if_pos e2]
          refine ih b c (by simpa using hl) (by simpa using hk) (fun i hi => ?_) ?_
          · simpa [gv] using he (i + 1) (by omega)
          · simpa [gv] using hlt
  have hlN : ldN c < N := by have := ldN_le b; rw [hb.1] at this; omega
  rw [key (ldN c) b c (by rw [hb.1, hc.1]) (by rw [hb.1]; exact hlN) (fun i hi => by rw [ldN_pre (show i < ldN b by omega), ldN_pre hi]) (by rw [ldN_pre h, h1]; omega)]
  omega
/-- sorted downward, a reduced basis is the reference's -/
theorem bas_srt {p : Int} {N : Nat} {inv : Int → Int} {rows B : List (List Int)} (h1p : 1 < p) (hi : ∀ a, 0 < a → a < p → IsInv p a (inv a)) (hr : ∀ r, r ∈ rows → Vec p N r) (hB : B.Perm (basL p inv rows)) (hs : B.Pairwise fun b c => ¬ cmpL b c < 0) : B = echL p inv N rows := by
  obtain ⟨h1, h2⟩ := bas_ok h1p hi hr
  refine bas_ech h1p hi hr hB (hs.imp_of_mem fun {b c} hb hc q => ?_)
  have hb := hB.mem_iff.1 hb
  have hc := hB.mem_iff.1 hc
  refine Classical.byContradiction fun hn => q (cmp_ld (h1.vec b hb) (h1.vec c hc) (h1.one c hc) (by omega))
/-- inverses modulo the primes that are asked -/
def invF (p a : Int) : Int := (((List.range 7).find? fun b : Nat => a * (b : Int) % p = 1).getD 0 : Nat)
theorem invF_ok {p : Int} (hp : p = 2 ∨ p = 3 ∨ p = 5 ∨ p = 7) : ∀ a, 0 < a → a < p → IsInv p a (invF p a) ∧ 1 ≤ invF p a ∧ invF p a < p ∧ ∀ b : Nat, 1 ≤ b → (b : Int) < invF p a → a * b % p ≠ 1 := by
  intro a h0 h1
  have key : ∀ (p a : Fin 8), (p.1 = 2 ∨ p.1 = 3 ∨ p.1 = 5 ∨ p.1 = 7) → 0 < a.1 → a.1 < p.1 → ((a.1 : Int) * invF p.1 a.1 % (p.1 : Int) = 1 ∧ 1 ≤ invF p.1 a.1 ∧ invF p.1 a.1 < p.1 ∧ ∀ b : Fin 7, 1 ≤ b.1 → ((b.1 : Nat) : Int) < invF p.1 a.1 → (a.1 : Int) * ((b.1 : Nat) : Int) % (p.1 : Int) ≠ 1) := by decide +kernel
  obtain ⟨P, rfl⟩ : ∃ P : Nat, p = P := ⟨p.toNat, by omega⟩
  obtain ⟨A, rfl⟩ : ∃ A : Nat, a = A := ⟨a.toNat, by omega⟩
  have hP : P = 2 ∨ P = 3 ∨ P = 5 ∨ P = 7 := by omega
  obtain ⟨k1, k2, k3, k4⟩ := key ⟨P, by omega⟩ ⟨A, by omega⟩ hP (show 0 < A by omega) (show A < P by omega)
  have k5 : invF (P : Int) (A : Int) < (P : Int) := k3
  exact ⟨k1, k2, k3, fun b hb hlt => k4 ⟨b, by omega⟩ hb hlt⟩
end Go.Proofs.YtnlgmhckjpifiaaGreat
