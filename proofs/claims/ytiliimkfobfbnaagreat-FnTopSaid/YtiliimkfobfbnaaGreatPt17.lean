/-
  Walks and plain laws of this seat, some texts in one.
  No condition but bounds on lengths.
-/
import Derived.Test.YtiliimkfobfbnaaGreatPt1
namespace Go.Proofs.YtiliimkfobfbnaaGreat
set_option linter.unusedVariables false
set_option linter.unusedSimpArgs false
structure Pm where
  f : Nat → Nat
  g : Nat → Nat
  fg : ∀ i, f (g i) = i
  gf : ∀ i, g (f i) = i
theorem Pm.ext {p q : Pm} (h : ∀ i, p.f i = q.f i) : p = q := by
  obtain ⟨f, g, a, b⟩ := p
  obtain ⟨f', g', a', b'⟩ := q
  have e : f = f' := funext h
  subst e
  have e2 : g = g' := funext fun i => by rw [← b (g' i), a' i]
  subst e2
  rfl
def sg (k i : Nat) : Nat := if i = k then k + 1 else if i = k + 1 then k else i
theorem sg_sg (k i : Nat) : sg k (sg k i) = i := by
  unfold sg
  by_cases h1 : i = k
  · subst h1; simp
  · by_cases h2 : i = k + 1
    · subst h2; simp
    · simp [h1, h2]
theorem sg_k (k : Nat) : sg k k = k + 1 := by simp [sg]
theorem sg_k1 (k : Nat) : sg k (k + 1) = k := by unfold sg; rw [if_neg (by omega), if_pos rfl]
theorem sg_o {k i : Nat} (h1 : i ≠ k) (h2 : i ≠ k + 1) : sg k i = i := by simp [sg, h1, h2]
def Pm.s (k : Nat) : Pm := ⟨sg k, sg k, sg_sg k, sg_sg k⟩
def Pm.m (p q : Pm) : Pm := ⟨fun i => q.f (p.f i), fun i => p.g (q.g i), fun i => by simp [p.fg, q.fg], fun i => by simp [p.gf, q.gf]⟩
def Pm.one : Pm := ⟨id, id, fun _ => rfl, fun _ => rfl⟩
theorem Pm.assoc (p q r : Pm) : (p.m q).m r = p.m (q.m r) := Pm.ext fun i => rfl
theorem Pm.ss (k : Nat) : (Pm.s k).m (Pm.s k) = Pm.one := Pm.ext fun i => sg_sg k i
theorem Pm.one_m (p : Pm) : Pm.one.m p = p := Pm.ext fun _ => rfl
theorem Pm.m_one (p : Pm) : p.m Pm.one = p := Pm.ext fun _ => rfl
theorem Pm.s_far {k l : Nat} (h : k + 1 < l) : (Pm.s k).m (Pm.s l) = (Pm.s l).m (Pm.s k) := Pm.ext fun i => by
  show sg l (sg k i) = sg k (sg l i)
  by_cases h1 : i = k
  · rw [h1, sg_k, sg_o (k := l) (by omega) (by omega), sg_o (k := l) (by omega) (by omega), sg_k]
  · by_cases h2 : i = k + 1
    · rw [h2, sg_k1, sg_o (k := l) (by omega) (by omega), sg_o (k := l) (by omega) (by omega), sg_k1]
    · rw [sg_o h1 h2]
      by_cases h3 : i = l
      · rw [h3, sg_k, sg_o (by omega) (by omega)]
      · by_cases h4 : i = l + 1
        · rw [h4, sg_k1, sg_o (by omega) (by omega)]
        · rw [sg_o h3 h4, sg_o h1 h2]
theorem Pm.s_near (k : Nat) : ((Pm.s k).m (Pm.s (k + 1))).m (Pm.s k) = ((Pm.s (k + 1)).m (Pm.s k)).m (Pm.s (k + 1)) := Pm.ext fun i => by
  show sg k (sg (k + 1) (sg k i)) = sg (k + 1) (sg k (sg (k + 1) i))
  by_cases h1 : i = k
  · rw [h1, sg_k, sg_k, sg_o (k := k) (by omega) (by omega), sg_o (k := k + 1) (i := k) (by omega) (by omega), sg_k, sg_k]
  · by_cases h2 : i = k + 1
    · rw [h2, sg_k1, sg_o (k := k + 1) (i := k) (by omega) (by omega), sg_k, sg_k, sg_o (k := k) (i := k + 1 + 1) (by omega) (by omega), sg_k1]
    · by_cases h3 : i = k + 1 + 1
      · rw [h3, sg_o (k := k) (i := k + 1 + 1) (by omega) (by omega), sg_k1, sg_k1, sg_o (k := k + 1) (i := k) (by omega) (by omega)]
      · rw [sg_o h1 h2, sg_o h2 h3, sg_o h1 h2, sg_o h2 h3]
def St (p : Pm) (k : Nat) : Prop := p.f (k + 1) < p.f k
def En (p : Pm) (k : Nat) : Prop := p.g (k + 1) < p.g k
theorem not_en {p : Pm} {k : Nat} (h : ¬ En p k) : p.g k < p.g (k + 1) := by
  have : p.g k ≠ p.g (k + 1) := fun e => by
    have := congrArg p.f e; rw [p.fg, p.fg] at this; omega
  unfold En at h; omega
theorem not_st {p : Pm} {k : Nat} (h : ¬ St p k) : p.f k < p.f (k + 1) := by
  have : p.f k ≠ p.f (k + 1) := fun e => by
    have := congrArg p.g e; rw [p.gf, p.gf] at this; omega
  unfold St at h; omega
inductive Step : List Pm → List Pm → Prop
  | mv (L R : List Pm) (a b : Pm) (k : Nat) : St b k → ¬ En a k → Step (L ++ a :: b :: R) (L ++ a.m (Pm.s k) :: (Pm.s k).m b :: R)
inductive Star : List Pm → List Pm → Prop
  | refl (L) : Star L L
  | tail {L M N} : Step L M → Star M N → Star L N
theorem Star.one {L M : List Pm} (h : Step L M) : Star L M := .tail h (.refl _)
theorem Star.trans {L M N : List Pm} (h : Star L M) (k : Star M N) : Star L N := by
  induction h with
  | refl => exact k
  | tail s _ ih => exact .tail s (ih k)
theorem Step.ctx {X Y : List Pm} (h : Step X Y) (A B : List Pm) : Step (A ++ X ++ B) (A ++ Y ++ B) := by
  obtain ⟨L, R, a, b, k, h1, h2⟩ := h
  have := Step.mv (A ++ L) (R ++ B) a b k h1 h2
  simpa using this
theorem Star.ctx {X Y : List Pm} (h : Star X Y) (A B : List Pm) : Star (A ++ X ++ B) (A ++ Y ++ B) := by
  induction h with
  | refl => exact .refl _
  | tail s _ ih => exact .tail (s.ctx A B) ih
def Join (X Y : List Pm) : Prop := ∃ Z, Star X Z ∧ Star Y Z
theorem Join.ctx {X Y : List Pm} (h : Join X Y) (A B : List Pm) : Join (A ++ X ++ B) (A ++ Y ++ B) := by
  obtain ⟨Z, h1, h2⟩ := h; exact ⟨_, h1.ctx A B, h2.ctx A B⟩
theorem Join.symm {X Y : List Pm} (h : Join X Y) : Join Y X := by obtain ⟨Z, h1, h2⟩ := h; exact ⟨Z, h2, h1⟩
theorem Join.refl (X : List Pm) : Join X X := ⟨X, .refl _, .refl _⟩
theorem Join.of {X Y : List Pm} (h : Star X Y) : Join X Y := ⟨Y, h, .refl _⟩
/-! ### two moves out of one list can be joined -/
theorem join_far {a b : Pm} {k l : Nat} (h : k + 1 < l) (h1 : St b k) (h2 : ¬ En a k) (h3 : St b l) (h4 : ¬ En a l) : Join [a.m (Pm.s k), (Pm.s k).m b] [a.m (Pm.s l), (Pm.s l).m b] := by
  have e1 := Pm.s_far h
  refine ⟨[(a.m (Pm.s k)).m (Pm.s l), (Pm.s l).m ((Pm.s k).m b)], .one ?_, ?_⟩
  · refine Step.mv [] [] _ _ l ?_ ?_
    · show b.f (sg k (l + 1)) < b.f (sg k l)
      rw [sg_o (by omega) (by omega), sg_o (by omega) (by omega)]; exact h3
    · show ¬ (a.g (sg k (l + 1)) < a.g (sg k l))
      rw [sg_o (by omega) (by omega), sg_o (by omega) (by omega)]; exact h4
  · have : [(a.m (Pm.s k)).m (Pm.s l), (Pm.s l).m ((Pm.s k).m b)] = [(a.m (Pm.s l)).m (Pm.s k), (Pm.s k).m ((Pm.s l).m b)] := by
      rw [Pm.assoc, Pm.assoc, e1, ← Pm.assoc (Pm.s l), ← Pm.assoc (Pm.s k), e1]
    rw [this]
    refine .one (Step.mv [] [] _ _ k ?_ ?_)
    · show b.f (sg l (k + 1)) < b.f (sg l k)
      rw [sg_o (by omega) (by omega), sg_o (by omega) (by omega)]; exact h1
    · show ¬ (a.g (sg l (k + 1)) < a.g (sg l k))
      rw [sg_o (by omega) (by omega), sg_o (by omega) (by omega)]; exact h2
theorem join_near {a b : Pm} {k : Nat} (h1 : St b k) (h2 : ¬ En a k) (h3 : St b (k + 1)) (h4 : ¬ En a (k + 1)) : Join [a.m (Pm.s k), (Pm.s k).m b] [a.m (Pm.s (k + 1)), (Pm.s (k + 1)).m b] := by
  have e1 := Pm.s_near k
  have a1 := not_en h2
  have a2 := not_en h4
  unfold St at h1 h3
  have s0 : sg (k + 1) k = k := sg_o (by omega) (by omega)
  have s1 : sg (k + 1) (k + 1) = k + 1 + 1 := sg_k _
  have s2 : sg (k + 1) (k + 1 + 1) = k + 1 := sg_k1 _
  have s3 : sg k (k + 1 + 1) = k + 1 + 1 := sg_o (by omega) (by omega)
  refine ⟨[((a.m (Pm.s k)).m (Pm.s (k + 1))).m (Pm.s k), (Pm.s k).m ((Pm.s (k + 1)).m ((Pm.s k).m b))], ?_, ?_⟩
  · refine .tail (Step.mv [] [] _ _ (k + 1) ?_ ?_) (.one (Step.mv [] [] _ _ k ?_ ?_))
    · show b.f (sg k (k + 1 + 1)) < b.f (sg k (k + 1))
      rw [s3, sg_k1]; omega
    · show ¬ (a.g (sg k (k + 1 + 1)) < a.g (sg k (k + 1)))
      rw [s3, sg_k1]; omega
    · show b.f (sg k (sg (k + 1) (k + 1))) < b.f (sg k (sg (k + 1) k))
      rw [s1, s0, sg_k, sg_o (k := k) (by omega) (by omega)]; exact h3
    · show ¬ (a.g (sg k (sg (k + 1) (k + 1))) < a.g (sg k (sg (k + 1) k)))
      rw [s1, s0, sg_k, sg_o (k := k) (by omega) (by omega)]; exact h4
  · have : [((a.m (Pm.s k)).m (Pm.s (k + 1))).m (Pm.s k), (Pm.s k).m ((Pm.s (k + 1)).m ((Pm.s k).m b))] = [((a.m (Pm.s (k + 1))).m (Pm.s k)).m (Pm.s (k + 1)), (Pm.s (k + 1)).m ((Pm.s k).m ((Pm.s (k + 1)).m b))] := by
      have x1 : ((a.m (Pm.s k)).m (Pm.s (k + 1))).m (Pm.s k) = ((a.m (Pm.s (k + 1))).m (Pm.s k)).m (Pm.s (k + 1)) := by
        rw [Pm.assoc, Pm.assoc, ← Pm.assoc (Pm.s k), e1, Pm.assoc, Pm.assoc, Pm.assoc]
      have x2 : (Pm.s k).m ((Pm.s (k + 1)).m ((Pm.s k).m b)) = (Pm.s (k + 1)).m ((Pm.s k).m ((Pm.s (k + 1)).m b)) := by
        rw [← Pm.assoc, ← Pm.assoc, e1, Pm.assoc, Pm.assoc]
      rw [x1, x2]
    rw [this]
    refine .tail (Step.mv [] [] _ _ k ?_ ?_) (.one (Step.mv [] [] _ _ (k + 1) ?_ ?_))
    · show b.f (sg (k + 1) (k + 1)) < b.f (sg (k + 1) k)
      rw [s1, s0]; omega
    · show ¬ (a.g (sg (k + 1) (k + 1)) < a.g (sg (k + 1) k))
      rw [s1, s0]; omega
    · show b.f (sg (k + 1) (sg k (k + 1 + 1))) < b.f (sg (k + 1) (sg k (k + 1)))
      rw [s3, s2, sg_k1, s0]; exact h1
    · show ¬ (a.g (sg (k + 1) (sg k (k + 1 + 1))) < a.g (sg (k + 1) (sg k (k + 1))))
      rw [s3, s2, sg_k1, s0]; omega
theorem join_same {a b : Pm} {k l : Nat} (h1 : St b k) (h2 : ¬ En a k) (h3 : St b l) (h4 : ¬ En a l) : Join [a.m (Pm.s k), (Pm.s k).m b] [a.m (Pm.s l), (Pm.s l).m b] := by
  rcases Nat.lt_trichotomy k l with h | h | h
  · by_cases e : l = k + 1
    · subst e; exact join_near h1 h2 h3 h4
    · exact join_far (by omega) h1 h2 h3 h4
  · subst h; exact .refl _
  · by_cases e : k = l + 1
    · subst e; exact (join_near h3 h4 h1 h2).symm
    · exact (join_far (by omega) h3 h4 h1 h2).symm
theorem keep_end {b : Pm} {k l : Nat} (h1 : St b k) (h4 : ¬ En b l) : ¬ En ((Pm.s k).m b) l := by
  have a1 := not_en h4
  show ¬ (sg k (b.g (l + 1)) < sg k (b.g l))
  by_cases e1 : b.g l = k
  · by_cases e2 : b.g (l + 1) = k + 1
    · exfalso
      unfold St at h1
      have x1 := b.fg l
      have x2 := b.fg (l + 1)
      rw [e1] at x1
      rw [e2] at x2
      omega
    · rw [e1, sg_k, sg_o (by omega) e2]; omega
  · by_cases e2 : b.g l = k + 1
    · rw [e2, sg_k1, sg_o (by omega) (by omega)]; omega
    · rw [sg_o e1 e2]
      by_cases e3 : b.g (l + 1) = k
      · rw [e3, sg_k]; omega
      · by_cases e4 : b.g (l + 1) = k + 1
        · rw [e4, sg_k1]; omega
        · rw [sg_o e3 e4]; omega
theorem keep_start {b : Pm} {k l : Nat} (h1 : St b k) (h4 : ¬ En b l) : St (b.m (Pm.s l)) k := by
  unfold St at h1
  have a1 := not_en h4
  show sg l (b.f (k + 1)) < sg l (b.f k)
  by_cases e1 : b.f k = l + 1
  · by_cases e2 : b.f (k + 1) = l
    · exfalso
      have x1 := b.gf k
      have x2 := b.gf (k + 1)
      rw [e1] at x1
      rw [e2] at x2
      omega
    · rw [e1, sg_k1, sg_o e2 (by omega)]; omega
  · by_cases e2 : b.f k = l
    · rw [e2, sg_k, sg_o (by omega) (by omega)]; omega
    · rw [sg_o e2 e1]
      by_cases e3 : b.f (k + 1) = l
      · rw [e3, sg_k]; omega
      · by_cases e4 : b.f (k + 1) = l + 1
        · rw [e4, sg_k1]; omega
        · rw [sg_o e3 e4]; exact h1
theorem join_over {a b c : Pm} {k l : Nat} (h1 : St b k) (h2 : ¬ En a k) (h3 : St c l) (h4 : ¬ En b l) : Join [a.m (Pm.s k), (Pm.s k).m b, c] [a, b.m (Pm.s l), (Pm.s l).m c] :=
  ⟨[a.m (Pm.s k), ((Pm.s k).m b).m (Pm.s l), (Pm.s l).m c], .one (Step.mv [a.m (Pm.s k)] [] _ _ l h3 (keep_end h1 h4)),
    .one (by have := Step.mv [] [(Pm.s l).m c] a (b.m (Pm.s l)) k (keep_start h1 h4) h2; rw [← Pm.assoc] at this; simpa using this)⟩
theorem step_join {X Y Z : List Pm} (h1 : Step X Y) (h2 : Step X Z) : Join Y Z := by
  obtain ⟨L, R, a, b, k, p1, p2⟩ := h1
  generalize hX : L ++ a :: b :: R = X at h2
  obtain ⟨L', R', a', b', l, p3, p4⟩ := h2
  rcases List.append_eq_append_iff.1 hX with ⟨az, e1, e2⟩ | ⟨az, e1, e2⟩
  · match az, e1, e2 with
    | [], e1, e2 =>
      simp at e1 e2
      obtain ⟨rfl, rfl, rfl⟩ := e2
      subst e1
      have := (join_same p1 p2 p3 p4).ctx L' R
      simpa using this
    | [x], e1, e2 =>
      simp at e2
      obtain ⟨rfl, rfl, rfl⟩ := e2
      subst e1
      have := (join_over p1 p2 p3 p4).ctx L R'
      simpa using this
    | x :: y :: zs, e1, e2 =>
      simp at e2
      obtain ⟨rfl, rfl, rfl⟩ := e2
      subst e1
      refine ⟨L ++ a.m (Pm.s k) :: (Pm.s k).m b :: (zs ++ a'.m (Pm.s l) :: (Pm.s l).m b' :: R'), .one ?_, .one ?_⟩
      · have := Step.mv (L ++ a.m (Pm.s k) :: (Pm.s k).m b :: zs) R' a' b' l p3 p4
        simpa using this
      · have := Step.mv L (zs ++ a'.m (Pm.s l) :: (Pm.s l).m b' :: R') a b k p1 p2
        simpa using this
  · match az, e1, e2 with
    | [], e1, e2 =>
      simp at e1 e2
      obtain ⟨rfl, rfl, rfl⟩ := e2
      subst e1
      have := (join_same p1 p2 p3 p4).ctx L R'
      simpa using this
    | [x], e1, e2 =>
      simp at e2
      obtain ⟨rfl, rfl, rfl⟩ := e2
      subst e1
      have := (join_over p3 p4 p1 p2).symm.ctx L' R
      simpa using this
    | x :: y :: zs, e1, e2 =>
      simp at e2
      obtain ⟨rfl, rfl, rfl⟩ := e2
      subst e1
      refine ⟨L' ++ a'.m (Pm.s l) :: (Pm.s l).m b' :: (zs ++ a.m (Pm.s k) :: (Pm.s k).m b :: R), .one ?_, .one ?_⟩
      · have := Step.mv L' (zs ++ a.m (Pm.s k) :: (Pm.s k).m b :: R) a' b' l p3 p4
        simpa using this
      · have := Step.mv (L' ++ a'.m (Pm.s l) :: (Pm.s l).m b' :: zs) R a b k p1 p2
        simpa using this
/-! ### moves come to an end -/
def Fx (n : Nat) (p : Pm) : Prop := ∀ i, n ≤ i → p.f i = i
theorem Fx.g {n : Nat} {p : Pm} (h : Fx n p) (i : Nat) (hi : n ≤ i) : p.g i = i := by have := p.gf i; rw [h i hi] at this; exact this
theorem Fx.lt {n : Nat} {p : Pm} (h : Fx n p) {i : Nat} (hi : i < n) : p.f i < n := by
  rcases Nat.lt_or_ge (p.f i) n with h1 | h1
  · exact h1
  · have := h (p.f i) h1
    have := congrArg p.g this
    rw [p.gf, p.gf] at this; omega
theorem Fx.glt {n : Nat} {p : Pm} (h : Fx n p) {i : Nat} (hi : i < n) : p.g i < n := by
  rcases Nat.lt_or_ge (p.g i) n with h1 | h1
  · exact h1
  · have := h.g (p.g i) h1
    have := congrArg p.f this
    rw [p.fg, p.fg] at this; omega
theorem Fx.st {n : Nat} {p : Pm} (h : Fx n p) {k : Nat} (hs : St p k) : k + 1 < n := by
  unfold St at hs
  rcases Nat.lt_or_ge (k + 1) n with h1 | h1
  · exact h1
  · rw [h _ h1] at hs
    rcases Nat.lt_or_ge k n with h2 | h2
    · have := h.lt h2; omega
    · rw [h _ h2] at hs; omega
theorem Fx.s {n k : Nat} (h : k + 1 < n) : Fx n (Pm.s k) := fun i hi => sg_o (by omega) (by omega)
theorem Fx.m {n : Nat} {p q : Pm} (h1 : Fx n p) (h2 : Fx n q) : Fx n (p.m q) := fun i hi => by show q.f (p.f i) = i; rw [h1 i hi, h2 i hi]
theorem Fx.one (n : Nat) : Fx n Pm.one := fun _ _ => rfl
def AFx (n : Nat) (L : List Pm) : Prop := ∀ p ∈ L, Fx n p
theorem AFx.step {n : Nat} {X Y : List Pm} (h : AFx n X) (s : Step X Y) : AFx n Y := by
  obtain ⟨L, R, a, b, k, p1, p2⟩ := s
  have hb := h b (by simp)
  have hk := Fx.s (hb.st p1)
  intro p hp
  simp only [List.mem_append, List.mem_cons] at hp
  rcases hp with hp | rfl | rfl | hp
  · exact h p (by simp [hp])
  · exact (h a (by simp)).m hk
  · exact hk.m hb
  · exact h p (by simp [hp])
theorem AFx.star {n : Nat} {X Y : List Pm} (h : AFx n X) (s : Star X Y) : AFx n Y := by
  induction s with
  | refl => exact h
  | tail s _ ih => exact ih (h.step s)
def sumF (F : Nat → Nat) : Nat → Nat
  | 0 => 0
  | n + 1 => sumF F n + F n
theorem sumF_le {F : Nat → Nat} {b : Nat} : ∀ n, (∀ i, i < n → F i ≤ b) → sumF F n ≤ n * b := by
  intro n
  induction n with
  | zero => intro _; simp [sumF]
  | succ n ih => intro h; have h1 := ih fun i hi => h i (by omega); have h2 := h n (by omega); simp only [sumF, Nat.succ_mul]; omega
theorem sumF_eq {F G : Nat → Nat} : ∀ n, (∀ i, i < n → F i = G i) → sumF F n = sumF G n := by
  intro n
  induction n with
  | zero => intro _; rfl
  | succ n ih => intro h; simp only [sumF]; rw [ih fun i hi => h i (by omega), h n (by omega)]
theorem sumF_one {F G : Nat → Nat} {u : Nat} : ∀ n, u < n → (∀ i, i < n → i ≠ u → F i = G i) → sumF F n + G u = sumF G n + F u := by
  intro n
  induction n with
  | zero => intro h; omega
  | succ n ih =>
    intro hu h
    simp only [sumF]
    by_cases e : u = n
    · subst e
      rw [sumF_eq u fun i hi => h i (by omega) (by omega)]; omega
    · have := ih (by omega) fun i hi => h i (by omega)
      rw [h n (by omega) (by omega)]; omega
theorem sumF_two {F G : Nat → Nat} {u v : Nat} (huv : u < v) : ∀ n, v < n → (∀ i, i < n → i ≠ u → i ≠ v → F i = G i) → sumF F n + G u + G v = sumF G n + F u + F v := by
  intro n
  induction n with
  | zero => intro h; omega
  | succ n ih =>
    intro hu h
    simp only [sumF]
    by_cases e : v = n
    · subst e
      have := sumF_one (F := F) (G := G) v huv fun i hi h1 => h i (by omega) h1 (by omega)
      omega
    · have := ih (by omega) fun i hi => h i (by omega)
      rw [h n (by omega) (by omega) (by omega)]; omega
def mom (n : Nat) (p : Pm) : Nat := sumF (fun i => i * p.f i) n
theorem mom_lt {n : Nat} {p : Pm} (h : Fx n p) : mom n p < n * (n * n) + 1 := by
  have := sumF_le (F := fun i => i * p.f i) (b := n * n) n fun i hi => Nat.mul_le_mul (by omega) (by have := h.lt hi; omega)
  unfold mom; omega
theorem mom_step {n : Nat} {a : Pm} {k : Nat} (h : Fx n a) (hk : k + 1 < n) (he : ¬ En a k) : mom n (a.m (Pm.s k)) < mom n a := by
  have hlt := not_en he
  have := sumF_two (F := fun i => i * (a.m (Pm.s k)).f i) (G := fun i => i * a.f i) hlt n (h.glt hk) (fun i hi h1 h2 => by
    have e1 : a.f i ≠ k := fun e => h1 (by rw [← e, a.gf])
    have e2 : a.f i ≠ k + 1 := fun e => h2 (by rw [← e, a.gf])
    show i * sg k (a.f i) = i * a.f i
    rw [sg_o e1 e2])
  have e1 : (a.m (Pm.s k)).f (a.g k) = k + 1 := by show sg k (a.f (a.g k)) = _; rw [a.fg, sg_k]
  have e2 : (a.m (Pm.s k)).f (a.g (k + 1)) = k := by show sg k (a.f (a.g (k + 1))) = _; rw [a.fg, sg_k1]
  simp only [e1, e2, a.fg] at this
  unfold mom
  have x1 := Nat.mul_succ (a.g k) k
  have x2 := Nat.mul_succ (a.g (k + 1)) k
  simp only [Nat.succ_eq_add_one] at x1 x2
  omega
def val (n : Nat) : List Pm → Nat
  | [] => 0
  | p :: L => mom n p * (n * (n * n) + 1) ^ L.length + val n L
theorem val_lt {n : Nat} : ∀ L : List Pm, AFx n L → val n L < (n * (n * n) + 1) ^ L.length := by
  intro L
  induction L with
  | nil => intro _; simp [val]
  | cons p L ih =>
    intro h
    have h1 := ih fun q hq => h q (by simp [hq])
    have h2 := mom_lt (h p (by simp))
    simp only [val, List.length_cons, Nat.pow_succ]
    have h3 : mom n p + 1 ≤ n * (n * n) + 1 := h2
    have h4 := Nat.mul_le_mul_right ((n * (n * n) + 1) ^ L.length) h3
    rw [Nat.succ_mul, Nat.mul_comm (n * (n * n) + 1)] at h4
    omega
theorem val_app {n : Nat} (R : List Pm) : ∀ L : List Pm, val n (L ++ R) = val n L * (n * (n * n) + 1) ^ R.length + val n R := by
  intro L
  induction L with
  | nil => simp [val]
  | cons p L ih =>
    simp only [List.cons_append, val, ih, List.length_append, Nat.pow_add, Nat.add_mul]
    rw [Nat.mul_assoc]; omega
theorem val_step {n : Nat} {X Y : List Pm} (h : AFx n X) (s : Step X Y) : val n Y < val n X := by
  have hY := h.step s
  obtain ⟨L, R, a, b, k, p1, p2⟩ := s
  have hb := h b (by simp)
  have ha := h a (by simp)
  have h1 := mom_step ha (hb.st p1) p2
  have h2 := val_lt ((Pm.s k).m b :: R) fun q hq => hY q (by simp at hq ⊢; rcases hq with hq | hq <;> simp [hq])
  rw [val_app, val_app]
  simp only [val, List.length_cons] at h2 ⊢
  have h4 := Nat.mul_le_mul_right ((n * (n * n) + 1) ^ (R.length + 1)) (show mom n (a.m (Pm.s k)) + 1 ≤ mom n a from h1)
  rw [Nat.succ_mul] at h4
  omega
/-! ### the normal form is one -/
def NF (L : List Pm) : Prop := ∀ L', ¬ Step L L'
theorem confl {n : Nat} : ∀ (v : Nat) (X : List Pm), val n X ≤ v → AFx n X → ∀ Y Z, Star X Y → Star X Z → Join Y Z := by
  intro v
  induction v with
  | zero =>
    intro X hv hX Y Z h1 h2
    cases h1 with
    | refl => exact .of h2
    | tail s _ => have := val_step hX s; omega
  | succ v ih =>
    intro X hv hX Y Z h1 h2
    cases h1 with
    | refl => exact .of h2
    | tail s1 t1 =>
      rename_i Y1
      cases h2 with
      | refl => exact (Join.of (.tail s1 t1)).symm
      | tail s2 t2 =>
        rename_i Z1
        have v1 := val_step hX s1
        have v2 := val_step hX s2
        obtain ⟨W, w1, w2⟩ := step_join s1 s2
        obtain ⟨U, u1, u2⟩ := ih Y1 (by omega) (hX.step s1) Y W t1 w1
        obtain ⟨V, x1, x2⟩ := ih Z1 (by omega) (hX.step s2) U Z (w2.trans u2) t2
        exact ⟨V, u1.trans x1, x2⟩
theorem Join.trans {n : Nat} {X Y Z : List Pm} (hY : AFx n Y) (h1 : Join X Y) (h2 : Join Y Z) : Join X Z := by
  obtain ⟨A, a1, a2⟩ := h1
  obtain ⟨B, b1, b2⟩ := h2
  obtain ⟨C, c1, c2⟩ := confl _ Y (Nat.le_refl _) hY A B a2 b1
  exact ⟨C, a1.trans c1, b2.trans c2⟩
theorem nf_ex {n : Nat} : ∀ (v : Nat) (X : List Pm), val n X ≤ v → AFx n X → ∃ Y, Star X Y ∧ NF Y := by
  intro v
  induction v with
  | zero =>
    intro X hv hX
    exact ⟨X, .refl _, fun L s => by have := val_step hX s; omega⟩
  | succ v ih =>
    intro X hv hX
    by_cases h : ∃ L, Step X L
    · obtain ⟨L, s⟩ := h
      obtain ⟨Y, y1, y2⟩ := ih L (by have := val_step hX s; omega) (hX.step s)
      exact ⟨Y, .tail s y1, y2⟩
    · exact ⟨X, .refl _, fun L s => h ⟨L, s⟩⟩
theorem Step.len {X Y : List Pm} (h : Step X Y) : Y.length = X.length := by obtain ⟨L, R, a, b, k, _, _⟩ := h; simp
theorem Star.len {X Y : List Pm} (h : Star X Y) : Y.length = X.length := by
  induction h with
  | refl => rfl
  | tail s _ ih => rw [ih, s.len]
/-! ### additive pairs, and the half twist -/
def Adt (a b : Pm) : Prop := ∀ i j, i < j → ¬ (a.g j < a.g i ∧ b.f j < b.f i)
def Cpl (n : Nat) (a b : Pm) : Prop := ∀ i j, i < j → j < n → a.g i < a.g j → b.f j < b.f i
theorem sg_mono {k i j : Nat} (h : i < j) (hn : ¬ (i = k ∧ j = k + 1)) : sg k i < sg k j := by
  by_cases h1 : i = k
  · rw [h1, sg_k, sg_o (by omega) (by omega)]; omega
  · by_cases h2 : i = k + 1
    · rw [h2, sg_k1, sg_o (by omega) (by omega)]; omega
    · rw [sg_o h1 h2]
      by_cases h3 : j = k
      · rw [h3, sg_k]; omega
      · by_cases h4 : j = k + 1
        · rw [h4, sg_k1]; omega
        · rw [sg_o h3 h4]; exact h
theorem sg_lt {k i n : Nat} (h : k + 1 < n) (hi : i < n) : sg k i < n := by
  unfold sg; split
  · exact h
  · split <;> omega
theorem Adt.move {a b : Pm} {k : Nat} (h : Adt a b) (h1 : St b k) (h2 : ¬ En a k) : Adt (a.m (Pm.s k)) ((Pm.s k).m b) := by
  intro i j hij ⟨x1, x2⟩
  have x1 : a.g (sg k j) < a.g (sg k i) := x1
  have x2 : b.f (sg k j) < b.f (sg k i) := x2
  by_cases e : i = k ∧ j = k + 1
  · obtain ⟨rfl, rfl⟩ := e
    rw [sg_k, sg_k1] at x2
    unfold St at h1; omega
  · exact h _ _ (sg_mono hij e) ⟨x1, x2⟩
theorem Cpl.move {n : Nat} {a b : Pm} {k : Nat} (h : Cpl n a b) (hk : k + 1 < n) (h1 : St b k) (h2 : ¬ En a k) : Cpl n (a.m (Pm.s k)) ((Pm.s k).m b) := by
  intro i j hij hj x1
  have x1 : a.g (sg k i) < a.g (sg k j) := x1
  show b.f (sg k j) < b.f (sg k i)
  by_cases e : i = k ∧ j = k + 1
  · obtain ⟨rfl, rfl⟩ := e
    rw [sg_k, sg_k1] at x1
    have := not_en h2; omega
  · exact h _ _ (sg_mono hij e) (sg_lt hk hj) x1
theorem step_two {a b : Pm} {Y : List Pm} (h : Step [a, b] Y) : ∃ k, St b k ∧ ¬ En a k ∧ Y = [a.m (Pm.s k), (Pm.s k).m b] := by
  generalize hX : [a, b] = X at h
  obtain ⟨L, R, a', b', k, p1, p2⟩ := h
  match L, hX with
  | [], hX => simp at hX; obtain ⟨rfl, rfl, rfl⟩ := hX; exact ⟨k, p1, p2, rfl⟩
  | [x], hX => simp at hX
  | x :: y :: zs, hX => simp at hX
theorem star_two {P : Pm → Pm → Prop} (hP : ∀ a b k, P a b → St b k → ¬ En a k → P (a.m (Pm.s k)) ((Pm.s k).m b)) : ∀ {X Y : List Pm}, Star X Y → ∀ a b, X = [a, b] → P a b → ∃ c d, Y = [c, d] ∧ P c d := by
  intro X Y h
  induction h with
  | refl => intro a b e hp; exact ⟨a, b, e, hp⟩
  | tail s _ ih =>
    intro a b e hp
    subst e
    obtain ⟨k, h1, h2, e⟩ := step_two s
    exact ih _ _ e (hP a b k hp h1 h2)
theorem asc_one {n : Nat} {p : Pm} (hf : Fx n p) (h : ∀ k, k + 1 < n → ¬ St p k) : p = Pm.one := by
  have h1 : ∀ i, i < n → i ≤ p.f i := by
    intro i
    induction i with
    | zero => intro _; omega
    | succ i ih => intro hi; have := ih (by omega); have := not_st (h i hi); omega
  have h2 : ∀ j, j < n → p.f (n - 1 - j) ≤ n - 1 - j := by
    intro j
    induction j with
    | zero => intro hj; have := hf.lt (show n - 1 - 0 < n by omega); omega
    | succ j ih =>
      intro hj
      have h3 := ih (by omega)
      have h4 := not_st (h (n - 1 - (j + 1)) (by omega))
      rw [show n - 1 - (j + 1) + 1 = n - 1 - j by omega] at h4
      omega
  refine Pm.ext fun i => ?_
  show p.f i = i
  rcases Nat.lt_or_ge i n with hi | hi
  · have h3 := h1 i hi
    have h4 := h2 (n - 1 - i) (by omega)
    rw [show n - 1 - (n - 1 - i) = i by omega] at h4
    omega
  · exact hf i hi
def twf (n i : Nat) : Nat := if i < n then n - 1 - i else i
theorem twf_twf (n i : Nat) : twf n (twf n i) = i := by
  unfold twf
  by_cases h : i < n
  · rw [if_pos h, if_pos (by omega)]; omega
  · rw [if_neg h, if_neg h]
theorem twf_in {n i : Nat} (h : i < n) : twf n i = n - 1 - i := by unfold twf; rw [if_pos h]
theorem twf_out {n i : Nat} (h : n ≤ i) : twf n i = i := by unfold twf; rw [if_neg (by omega)]
def Pm.tw (n : Nat) : Pm := ⟨twf n, twf n, twf_twf n, twf_twf n⟩
def tauP (n : Nat) (p : Pm) : Pm := ((Pm.tw n).m p).m (Pm.tw n)
theorem tw_tw (n : Nat) : (Pm.tw n).m (Pm.tw n) = Pm.one := Pm.ext fun i => twf_twf n i
theorem tw_fx (n : Nat) : Fx n (Pm.tw n) := fun i hi => twf_out hi
theorem tau_fx {n : Nat} {p : Pm} (h : Fx n p) : Fx n (tauP n p) := ((tw_fx n).m h).m (tw_fx n)
theorem tau_m (n : Nat) (p q : Pm) : tauP n (p.m q) = (tauP n p).m (tauP n q) := by
  have : tauP n (p.m q) = (((Pm.tw n).m p).m ((Pm.tw n).m (Pm.tw n))).m (q.m (Pm.tw n)) := by rw [tw_tw]; rfl
  rw [this]; rfl
theorem tau_one (n : Nat) : tauP n Pm.one = Pm.one := Pm.ext fun i => twf_twf n i
theorem tau_tw (n : Nat) : tauP n (Pm.tw n) = Pm.tw n := Pm.ext fun i => by
  show twf n (twf n (twf n i)) = twf n i
  rw [twf_twf]
theorem tau_s {n k : Nat} (h : k + 1 < n) : tauP n (Pm.s k) = Pm.s (n - 2 - k) := Pm.ext fun i => by
  show twf n (sg k (twf n i)) = sg (n - 2 - k) i
  rcases Nat.lt_or_ge i n with hi | hi
  · rw [twf_in hi]
    by_cases h1 : i = n - 2 - k
    · rw [h1, sg_k, show n - 1 - (n - 2 - k) = k + 1 by omega, sg_k1, twf_in (by omega)]; omega
    · by_cases h2 : i = n - 2 - k + 1
      · rw [h2, sg_k1, show n - 1 - (n - 2 - k + 1) = k by omega, sg_k, twf_in (by omega)]; omega
      · rw [sg_o h1 h2, sg_o (by omega) (by omega), twf_in (by omega)]; omega
  · rw [twf_out hi, sg_o (by omega) (by omega), sg_o (by omega) (by omega), twf_out hi]
theorem tau_St {n k : Nat} {b : Pm} (hb : Fx n b) (h : St b k) : St (tauP n b) (n - 2 - k) := by
  have hk := hb.st h
  show twf n (b.f (twf n (n - 2 - k + 1))) < twf n (b.f (twf n (n - 2 - k)))
  rw [twf_in (i := n - 2 - k + 1) (by omega), twf_in (i := n - 2 - k) (by omega), show n - 1 - (n - 2 - k + 1) = k by omega, show n - 1 - (n - 2 - k) = k + 1 by omega]
  have h1 := hb.lt (show k < n by omega)
  have h2 := hb.lt hk
  rw [twf_in h1, twf_in h2]
  unfold St at h; omega
theorem tau_En {n k : Nat} {a : Pm} (ha : Fx n a) (hk : k + 1 < n) (h : ¬ En a k) : ¬ En (tauP n a) (n - 2 - k) := by
  show ¬ (twf n (a.g (twf n (n - 2 - k + 1))) < twf n (a.g (twf n (n - 2 - k))))
  rw [twf_in (i := n - 2 - k + 1) (by omega), twf_in (i := n - 2 - k) (by omega), show n - 1 - (n - 2 - k + 1) = k by omega, show n - 1 - (n - 2 - k) = k + 1 by omega]
  have h1 := ha.glt (show k < n by omega)
  have h2 := ha.glt hk
  rw [twf_in h1, twf_in h2]
  have := not_en h; omega
theorem tau_step {n : Nat} {X Y : List Pm} (hX : AFx n X) (h : Step X Y) : Step (X.map (tauP n)) (Y.map (tauP n)) := by
  obtain ⟨L, R, a, b, k, p1, p2⟩ := h
  have hb := hX b (by simp)
  have ha := hX a (by simp)
  have hk := hb.st p1
  have := Step.mv (L.map (tauP n)) (R.map (tauP n)) (tauP n a) (tauP n b) (n - 2 - k) (tau_St hb p1) (tau_En ha hk p2)
  simp only [List.map_append, List.map_cons, tau_m, tau_s hk]
  exact this
theorem tau_star {n : Nat} {X Y : List Pm} (hX : AFx n X) (h : Star X Y) : Star (X.map (tauP n)) (Y.map (tauP n)) := by
  induction h with
  | refl => exact .refl _
  | tail s _ ih => exact .tail (tau_step hX s) (ih (hX.step s))
theorem tau_join {n : Nat} {X Y : List Pm} (hX : AFx n X) (hY : AFx n Y) (h : Join X Y) : Join (X.map (tauP n)) (Y.map (tauP n)) := by
  obtain ⟨Z, h1, h2⟩ := h; exact ⟨_, tau_star hX h1, tau_star hY h2⟩
theorem adt_star {n : Nat} {a b : Pm} (ha : Fx n a) (hb : Fx n b) (h : Adt a b) : Star [a, b] [a.m b, Pm.one] := by
  have hA : AFx n [a, b] := fun p hp => by simp at hp; rcases hp with rfl | rfl <;> assumption
  obtain ⟨Y, y1, y2⟩ := nf_ex _ _ (Nat.le_refl _) hA
  obtain ⟨c, d, rfl, h1, h2⟩ := star_two (P := fun x y => Adt x y ∧ x.m y = a.m b) (fun x y k hp s1 s2 => ⟨hp.1.move s1 s2, by rw [Pm.assoc, ← Pm.assoc (Pm.s k), Pm.ss, Pm.one_m, hp.2]⟩) y1 a b rfl ⟨h, rfl⟩
  have hY := hA.star y1
  have hd : d = Pm.one := asc_one (hY d (by simp)) fun k hk hs => by
    by_cases e : En c k
    · exact h1 k (k + 1) (by omega) ⟨e, hs⟩
    · exact y2 _ (Step.mv [] [] c d k hs e)
  subst hd
  rw [Pm.m_one] at h2
  rw [← h2]; exact y1
theorem one_star {n : Nat} {b : Pm} (hb : Fx n b) : Star [Pm.one, b] [b, Pm.one] := by
  have := adt_star (Fx.one n) hb (fun i j h => fun ⟨x1, _⟩ => by have x1 : j < i := x1; omega)
  rwa [Pm.one_m] at this
/-! ### words -/
def plN (x : Int) : Nat := if x < 0 then (-x - 1).toNat else (x - 1).toNat
abbrev Stt : Type := Int × List Pm
def actS (n : Nat) (s : Stt) (x : Int) : Stt := if 0 < x then (s.1, s.2 ++ [Pm.s (plN x)]) else (s.1 - 1, s.2.map (tauP n) ++ [(Pm.tw n).m (Pm.s (plN x))])
def Ltr (n : Nat) (x : Int) : Prop := x ≠ 0 ∧ plN x + 1 < n
def rp (k : Nat) (p : Pm) : List Pm := List.replicate k p
def Sim (n : Nat) (s t : Stt) : Prop := ∃ i j i' j' : Nat, s.1 - i = t.1 - i' ∧ Join (rp i (Pm.tw n) ++ s.2 ++ rp j Pm.one) (rp i' (Pm.tw n) ++ t.2 ++ rp j' Pm.one)
theorem AFx.app {n : Nat} {X Y : List Pm} (h1 : AFx n X) (h2 : AFx n Y) : AFx n (X ++ Y) := fun p hp => (List.mem_append.1 hp).elim (h1 p) (h2 p)
theorem AFx.rep {n k : Nat} {p : Pm} (h : Fx n p) : AFx n (rp k p) := fun q hq => by rw [List.eq_of_mem_replicate hq]; exact h
theorem AFx.pad {n i j : Nat} {X : List Pm} (h : AFx n X) : AFx n (rp i (Pm.tw n) ++ X ++ rp j Pm.one) := ((AFx.rep (tw_fx n)).app h).app (AFx.rep (Fx.one n))
theorem rp_add (i j : Nat) (p : Pm) : rp i p ++ rp j p = rp (i + j) p := by unfold rp; rw [List.replicate_append_replicate]
theorem Sim.refl (n : Nat) (s : Stt) : Sim n s s := ⟨0, 0, 0, 0, rfl, Join.refl _⟩
theorem Sim.symm {n : Nat} {s t : Stt} (h : Sim n s t) : Sim n t s := by obtain ⟨i, j, i', j', h1, h2⟩ := h; exact ⟨i', j', i, j, h1.symm, h2.symm⟩
theorem Sim.of {n : Nat} {e : Int} {X Y : List Pm} (h : Join X Y) : Sim n (e, X) (e, Y) := ⟨0, 0, 0, 0, rfl, by simpa [rp] using h⟩
theorem Sim.trans {n : Nat} {s t u : Stt} (ht : AFx n t.2) (h1 : Sim n s t) (h2 : Sim n t u) : Sim n s u := by
  obtain ⟨i, j, i', j', e1, q1⟩ := h1
  obtain ⟨p, q, p', q', e2, q2⟩ := h2
  refine ⟨p + i, j + q, i' + p', q' + j', by omega, ?_⟩
  have x1 := q1.ctx (rp p (Pm.tw n)) (rp q Pm.one)
  have x2 := q2.ctx (rp i' (Pm.tw n)) (rp j' Pm.one)
  have e3 : ∀ X : List Pm, rp p (Pm.tw n) ++ (rp i (Pm.tw n) ++ X ++ rp j Pm.one) ++ rp q Pm.one = rp (p + i) (Pm.tw n) ++ X ++ rp (j + q) Pm.one := fun X => by
    rw [← rp_add, ← rp_add]; simp
  have e4 : rp p (Pm.tw n) ++ (rp i' (Pm.tw n) ++ t.2 ++ rp j' Pm.one) ++ rp q Pm.one = rp i' (Pm.tw n) ++ (rp p (Pm.tw n) ++ t.2 ++ rp q Pm.one) ++ rp j' Pm.one := by
    have a1 : rp p (Pm.tw n) ++ rp i' (Pm.tw n) = rp i' (Pm.tw n) ++ rp p (Pm.tw n) := by rw [rp_add, rp_add, Nat.add_comm]
    have a2 : rp j' Pm.one ++ rp q Pm.one = rp q Pm.one ++ rp j' Pm.one := by rw [rp_add, rp_add, Nat.add_comm]
    calc rp p (Pm.tw n) ++ (rp i' (Pm.tw n) ++ t.2 ++ rp j' Pm.one) ++ rp q Pm.one = (rp p (Pm.tw n) ++ rp i' (Pm.tw n)) ++ t.2 ++ (rp j' Pm.one ++ rp q Pm.one) := by simp
      _ = (rp i' (Pm.tw n) ++ rp p (Pm.tw n)) ++ t.2 ++ (rp q Pm.one ++ rp j' Pm.one) := by rw [a1, a2]
      _ = _ := by simp
  have e5 : rp i' (Pm.tw n) ++ (rp p' (Pm.tw n) ++ u.2 ++ rp q' Pm.one) ++ rp j' Pm.one = rp (i' + p') (Pm.tw n) ++ u.2 ++ rp (q' + j') Pm.one := by
    rw [← rp_add, ← rp_add]; simp
  rw [e3, e4] at x1
  rw [e5] at x2
  exact Join.trans (((AFx.rep (tw_fx n)).app ht.pad).app (AFx.rep (Fx.one n))) x1 x2
theorem ones_join {n : Nat} {p : Pm} (hp : Fx n p) : ∀ j, Star (rp j Pm.one ++ [p]) ([p] ++ rp j Pm.one) := by
  intro j
  induction j with
  | zero => exact .refl _
  | succ j ih =>
    have x1 := ih.ctx [Pm.one] []
    have x2 := (one_star hp).ctx [] (rp j Pm.one)
    have e1 : rp (j + 1) Pm.one = [Pm.one] ++ rp j Pm.one := by unfold rp; rw [List.replicate_succ]; rfl
    rw [e1]
    refine Star.trans (by simpa using x1) ?_
    simpa using x2
theorem rp_map (n k : Nat) (p : Pm) : (rp k p).map (tauP n) = rp k (tauP n p) := by unfold rp; rw [List.map_replicate]
theorem Sim.act {n : Nat} {s t : Stt} {x : Int} (hs : AFx n s.2) (ht : AFx n t.2) (hx : Ltr n x) (h : Sim n s t) : Sim n (actS n s x) (actS n t x) := by
  obtain ⟨i, j, i', j', e1, q1⟩ := h
  have key : ∀ (p : Pm), Fx n p → ∀ (X Y : List Pm), AFx n X → AFx n Y → Join (rp i (Pm.tw n) ++ X ++ rp j Pm.one) (rp i' (Pm.tw n) ++ Y ++ rp j' Pm.one) → Join (rp i (Pm.tw n) ++ (X ++ [p]) ++ rp j Pm.one) (rp i' (Pm.tw n) ++ (Y ++ [p]) ++ rp j' Pm.one) := by
    intro p hp X Y hX hY hj
    have x1 := hj.ctx [] [p]
    simp only [List.nil_append] at x1
    have y1 := (Join.of (ones_join hp j)).ctx (rp i (Pm.tw n) ++ X) []
    have y2 := (Join.of (ones_join hp j')).ctx (rp i' (Pm.tw n) ++ Y) []
    have hp1 : AFx n [p] := fun q hq => by simp at hq; rw [hq]; exact hp
    have z1 := Join.trans (Z := rp i' (Pm.tw n) ++ Y ++ rp j' Pm.one ++ [p]) (hX.pad (i := i) (j := j) |>.app hp1) (X := rp i (Pm.tw n) ++ (X ++ [p]) ++ rp j Pm.one) (by simpa using y1.symm) x1
    exact Join.trans (hY.pad (i := i') (j := j') |>.app hp1) z1 (by simpa using y2)
  have hf := Fx.s hx.2
  unfold actS
  split
  · exact ⟨i, j, i', j', e1, key _ hf _ _ hs ht q1⟩
  · refine ⟨i, j, i', j', by show s.1 - 1 - _ = t.1 - 1 - _; omega, key _ ((tw_fx n).m hf) _ _ ?_ ?_ ?_⟩
    · intro p hp; obtain ⟨q, hq, rfl⟩ := List.mem_map.1 hp; exact tau_fx (hs q hq)
    · intro p hp; obtain ⟨q, hq, rfl⟩ := List.mem_map.1 hp; exact tau_fx (ht q hq)
    · have := tau_join hs.pad ht.pad q1
      simpa only [List.map_append, rp_map, tau_tw, tau_one] using this
/-! ### permutations as lists -/
end Go.Proofs.YtiliimkfobfbnaaGreat
