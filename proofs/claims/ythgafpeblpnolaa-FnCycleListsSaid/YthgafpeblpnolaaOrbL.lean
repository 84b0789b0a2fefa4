/-
  Orbits of a permutation, in plain lists: no program in sight.
  No condition.
-/
import Derived.Test.YthgafpeblpnolaaBase2
namespace Go.Proofs.Ythgafpeblpnolaa
set_option maxRecDepth 100000
set_option linter.unusedVariables false
set_option linter.unusedSimpArgs false
open Go.RowKit

/-- follow f until an element comes again -/
def orbN (f : Nat → Nat) : Nat → List Nat → Nat → List Nat
  | 0, c, _ => c
  | m + 1, c, y => if y ∈ c then c else orbN f m (c ++ [y]) (f y)
def orbF (f : Nat → Nat) (n x : Nat) : List Nat := orbN f n [x] (f x)
def setAll (L : List Int) (c : List Nat) (v : Int) : List Int := c.foldl (fun L y => L.set y v) L
theorem setAll_app (L : List Int) (c d : List Nat) (v : Int) : setAll L (c ++ d) v = setAll (setAll L c v) d v := by simp [setAll]
theorem setAll_snoc (L : List Int) (c : List Nat) (y : Nat) (v : Int) : setAll L (c ++ [y]) v = (setAll L c v).set y v := by simp [setAll]
theorem setAll_len (c : List Nat) (v : Int) : ∀ (L : List Int), (setAll L c v).length = L.length := by
  induction c with
  | nil => intro L; rfl
  | cons x c ih =>
    intro L
    show (setAll (L.set x v) c v).length = _
    rw [ih, List.length_set]
theorem setAll_get (c : List Nat) (v : Int) (i : Nat) : ∀ (L : List Int), i < L.length → (setAll L c v).getD i 0 = if i ∈ c then v else L.getD i 0 := by
  induction c with
  | nil => intro L _; simp [setAll]
  | cons x c ih =>
    intro L hi
    show (setAll (L.set x v) c v).getD i 0 = _
    rw [ih _ (by rw [List.length_set]; exact hi), getD_setz _ _ _ _ hi]
    by_cases h1 : i ∈ c
    · rw [if_pos h1, if_pos (List.mem_cons_of_mem _ h1)]
    · rw [if_neg h1]
      by_cases h2 : i = x
      · subst h2; rw [if_pos rfl, if_pos List.mem_cons_self]
      · rw [if_neg h2, if_neg (by simp [h1, h2])]

theorem nodup_le : ∀ (n : Nat) (c : List Nat), c.Nodup → (∀ x ∈ c, x < n) → c.length ≤ n := by
  intro n
  induction n with
  | zero =>
    intro c _ h
    cases c with
    | nil => exact Nat.le_refl _
    | cons x c => exact absurd (h x List.mem_cons_self) (by omega)
  | succ n ih =>
    intro c hd h
    have h1 := ih (c.erase n) (hd.erase n) (fun x hx => by
      have h2 := (List.Nodup.mem_erase_iff hd).1 hx
      have := h x h2.2
      have := h2.1
      omega)
    by_cases hm : n ∈ c
    · rw [List.length_erase_of_mem hm] at h1; omega
    · rw [List.erase_of_not_mem hm] at h1; omega

/-- under way: c holds the elements so far, l the last of them -/
structure OrbI (f : Nat → Nat) (n x : Nat) (c : List Nat) (l rem : Nat) : Prop where
  nd : c.Nodup
  lt : ∀ u ∈ c, u < n
  xm : x ∈ c
  lm : l ∈ c
  rm : rem + c.length = n + 1
  pre : ∀ z ∈ c, z ≠ x → ∃ u ∈ c, u ≠ l ∧ f u = z
  eq : orbF f n x = orbN f rem c (f l)
theorem OrbI.start (f : Nat → Nat) {n x : Nat} (h : x < n) : OrbI f n x [x] x n :=
  ⟨by simp, by simpa using h, by simp, by simp, by simp, fun z hz hne => absurd (by simpa using hz) hne, rfl⟩
theorem OrbI.le {f : Nat → Nat} {n x : Nat} {c : List Nat} {l rem : Nat} (h : OrbI f n x c l rem) : c.length ≤ n := nodup_le n c h.nd h.lt
theorem OrbI.step {f : Nat → Nat} {n x : Nat} {c : List Nat} {l rem : Nat} (h : OrbI f n x c l rem) (hm : f l ∉ c) (hl : f l < n) : OrbI f n x (c ++ [f l]) (f l) (rem - 1) := by
  have hle := h.le
  obtain ⟨m, rfl⟩ : ∃ m, rem = m + 1 := ⟨rem - 1, by have := h.rm; omega⟩
  refine ⟨?_, ?_, by simp [h.xm], by simp, by have := h.rm; simp; omega, ?_, ?_⟩
  · rw [List.nodup_append]
    refine ⟨h.nd, by simp, fun a ha b hb => ?_⟩
    simp at hb; subst hb
    exact fun e => hm (e ▸ ha)
  · intro u hu
    rcases List.mem_append.1 hu with hu | hu
    · exact h.lt u hu
    · simp at hu; subst hu; exact hl
  · intro z hz hne
    rcases List.mem_append.1 hz with hz | hz
    · obtain ⟨u, hu, _, he⟩ := h.pre z hz hne
      exact ⟨u, by simp [hu], fun e => hm (e ▸ hu), he⟩
    · simp at hz; subst hz
      exact ⟨l, by simp [h.lm], fun e => hm (e ▸ h.lm), rfl⟩
  · rw [h.eq]
    show (if f l ∈ c then c else orbN f m (c ++ [f l]) (f (f l))) = _
    rw [if_neg hm]; rfl
theorem OrbI.stop {f : Nat → Nat} {n x : Nat} {c : List Nat} {l rem : Nat} (h : OrbI f n x c l rem) (hm : f l ∈ c) : orbF f n x = c := by
  have hle := h.le
  obtain ⟨m, rfl⟩ : ∃ m, rem = m + 1 := ⟨rem - 1, by have := h.rm; omega⟩
  rw [h.eq]
  show (if f l ∈ c then c else _) = _
  rw [if_pos hm]
theorem OrbI.closed {f : Nat → Nat} {n x : Nat} {c : List Nat} {l rem : Nat} (h : OrbI f n x c l rem) (hm : f l ∈ c) (hinj : ∀ i j, i < n → j < n → f i = f j → i = j) : ∀ i, i < n → f i ∈ c → i ∈ c := by
  have hll := h.lt l h.lm
  have hx : f l = x := by
    by_cases e : f l = x
    · exact e
    · obtain ⟨u, hu, hne, he⟩ := h.pre _ hm e
      exact absurd (hinj u l (h.lt u hu) hll he) hne
  intro i hi hic
  by_cases e : f i = x
  · rw [hinj i l hi hll (e.trans hx.symm)]; exact h.lm
  · obtain ⟨u, hu, _, he⟩ := h.pre _ hic e
    rw [← hinj u i (h.lt u hu) hi he]; exact hu

/-- labels and the next label, after the first s starts -/
def labS (f : Nat → Nat) (n : Nat) : Nat → List Int × Nat
  | 0 => (List.replicate n (-1), 0)
  | s + 1 => if 0 ≤ (labS f n s).1.getD s 0 then labS f n s else (setAll (labS f n s).1 (orbF f n s) (labS f n s).2, (labS f n s).2 + 1)
def labF (f : Nat → Nat) (n : Nat) : List Int := (labS f n n).1
theorem labS_len (f : Nat → Nat) (n s : Nat) : (labS f n s).1.length = n := by
  induction s with
  | zero => simp [labS]
  | succ s ih =>
    unfold labS; split
    · exact ih
    · rw [setAll_len]; exact ih
theorem labS_num (f : Nat → Nat) (n s : Nat) : (labS f n s).2 ≤ s := by
  induction s with
  | zero => simp [labS]
  | succ s ih =>
    unfold labS; split
    · omega
    · show _ + 1 ≤ _; omega
/-- what is not labelled is led to what is not labelled -/
def Clo (f : Nat → Nat) (n : Nat) (L : List Int) : Prop := ∀ i, i < n → L.getD i 0 < 0 → L.getD (f i) 0 < 0
theorem clo_zero (f : Nat → Nat) (n : Nat) (hf : ∀ i, i < n → f i < n) : Clo f n (List.replicate n (-1)) := by
  intro i hi _
  simp [List.getD_eq_getElem?_getD, List.getElem?_replicate, hf i hi]
theorem clo_step {f : Nat → Nat} {n : Nat} {L : List Int} (h : Clo f n L) (hL : L.length = n) (hf : ∀ i, i < n → f i < n) {c : List Nat} (hc : ∀ i, i < n → f i ∈ c → i ∈ c) (v : Nat) : Clo f n (setAll L c v) := by
  intro i hi hlt
  rw [setAll_get c v i L (by omega)] at hlt
  rw [setAll_get c v (f i) L (by have := hf i hi; omega)]
  by_cases h1 : i ∈ c
  · rw [if_pos h1] at hlt; omega
  · rw [if_neg h1] at hlt
    rw [if_neg (fun h2 => h1 (hc i hi h2))]
    exact h i hi hlt

end Go.Proofs.Ythgafpeblpnolaa
