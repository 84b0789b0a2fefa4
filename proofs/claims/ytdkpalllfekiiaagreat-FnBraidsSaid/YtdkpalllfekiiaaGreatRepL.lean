/-
  Whatever obeys the braids' relations is the same for equal braids: permutations, sums, actions.
  No condition.
-/
import Derived.Test.YtdkpalllfekiiaaGreatGarW
namespace Go.Proofs.YtdkpalllfekiiaaGreat
set_option maxRecDepth 100000
set_option linter.unusedVariables false
set_option linter.unusedSimpArgs false

/-- a group's elements for the letters, which obey the braids' relations -/
structure Rep (n : Nat) (G : Type) where
  mul : G → G → G
  one : G
  assoc : ∀ a b c, mul (mul a b) c = mul a (mul b c)
  one_mul : ∀ a, mul one a = a
  mul_one : ∀ a, mul a one = a
  s : Nat → G
  t : Nat → G
  st : ∀ k, k + 1 < n → mul (s k) (t k) = one
  ts : ∀ k, k + 1 < n → mul (t k) (s k) = one
  far : ∀ k l, k + 1 < l → l + 1 < n → mul (s k) (s l) = mul (s l) (s k)
  near : ∀ k, k + 2 < n → mul (s k) (mul (s (k + 1)) (s k)) = mul (s (k + 1)) (mul (s k) (s (k + 1)))

/-! ### lengths -/
def Pm.inv (p : Pm) : Pm := ⟨p.g, p.f, p.gf, p.fg⟩
theorem inv_fx {n : Nat} {p : Pm} (h : Fx n p) : Fx n p.inv := fun i hi => h.g i hi
def mu (n : Nat) (p : Pm) : Nat := n * (n * n) + 1 - mom n p.inv
theorem sm_m (k : Nat) (p : Pm) : (Pm.s k).m ((Pm.s k).m p) = p := by rw [← Pm.assoc, Pm.ss, Pm.one_m]
theorem mu_st {n : Nat} {p : Pm} {k : Nat} (hp : Fx n p) (h : St p k) : mu n ((Pm.s k).m p) < mu n p := by
  have hk := hp.st h
  have hfx : Fx n ((Pm.s k).m p) := (Fx.s hk).m hp
  have he : ¬ En ((Pm.s k).m p).inv k := by
    unfold En
    show ¬ (p.f (sg k (k + 1)) < p.f (sg k k))
    rw [sg_k, sg_k1]
    unfold St at h
    omega
  have h1 := mom_step (n := n) (inv_fx hfx) hk he
  have e : ((Pm.s k).m p).inv.m (Pm.s k) = p.inv := Pm.ext fun i => by
    show sg k ((sg k (p.g i))) = p.g i
    exact sg_sg k _
  rw [e] at h1
  have h2 := mom_lt (n := n) (inv_fx hfx)
  have h3 := mom_lt (n := n) (inv_fx hp)
  unfold mu; omega

/-! ### a permutation's element -/
variable {n : Nat} {G : Type} (R : Rep n G)
inductive Rd : Pm → G → Prop
  | one : Rd Pm.one R.one
  | mk (p : Pm) (k : Nat) (g : G) : St p k → Rd ((Pm.s k).m p) g → Rd p (R.mul (R.s k) g)
theorem st_two {p : Pm} {k : Nat} (h : St p k) : ¬ St ((Pm.s k).m p) k := by
  unfold St at *
  show ¬ (p.f (sg k (k + 1)) < p.f (sg k k))
  rw [sg_k, sg_k1]; omega
theorem rd_ex (v : Nat) : ∀ p : Pm, Fx n p → mu n p ≤ v → ∃ g, Rd R p g := by
  induction v using Nat.strongRecOn with
  | _ v ih =>
    intro p hp hv
    by_cases h : ∃ k, k + 1 < n ∧ St p k
    · obtain ⟨k, hk, hs⟩ := h
      have := mu_st hp hs
      obtain ⟨g, hg⟩ := ih (mu n ((Pm.s k).m p)) (by omega) _ ((Fx.s hk).m hp) (Nat.le_refl _)
      exact ⟨_, .mk p k g hs hg⟩
    · have : p = Pm.one := asc_one hp fun k hk hs => h ⟨k, hk, hs⟩
      subst this; exact ⟨_, .one⟩
theorem st_far {p : Pm} {k l : Nat} (h : k + 1 < l ∨ l + 1 < k) : St ((Pm.s k).m p) l ↔ St p l := by
  unfold St
  show p.f (sg k (l + 1)) < p.f (sg k l) ↔ _
  rw [sg_o (by omega) (by omega), sg_o (by omega) (by omega)]
/-- any letter with which it may begin will do -/
theorem rd_uniq (v : Nat) : ∀ p : Pm, Fx n p → mu n p ≤ v → ∀ g g', Rd R p g → Rd R p g' → g = g' := by
  induction v using Nat.strongRecOn with
  | _ v ih =>
    intro p hp hv g g' h1 h2
    have one_no : ∀ k, ¬ St Pm.one k := fun k h => by unfold St at h; have : (k + 1 : Nat) < k := h; omega
    have U : ∀ q, Fx n q → mu n q < mu n p → ∀ g g', Rd R q g → Rd R q g' → g = g' := fun q hq hl => ih (mu n q) (by omega) q hq (Nat.le_refl _)
    cases h1 with
    | one =>
      cases h2 with
      | one => rfl
      | mk _ k g0 hs hg => exact absurd hs (one_no k)
    | mk _ k g1 hs hg =>
      cases h2 with
      | one => exact absurd hs (one_no k)
      | mk _ l g2 hs2 hg2 =>
        have hk := hp.st hs
        have hl := hp.st hs2
        have F1 : Fx n ((Pm.s k).m p) := (Fx.s hk).m hp
        have F2 : Fx n ((Pm.s l).m p) := (Fx.s hl).m hp
        have m1 := mu_st hp hs
        have m2 := mu_st hp hs2
        have key : ∀ (k l : Nat) (g1 g2 : G), k < l → St p k → St p l → Rd R ((Pm.s k).m p) g1 → Rd R ((Pm.s l).m p) g2 → R.mul (R.s k) g1 = R.mul (R.s l) g2 := by
          intro k l g1 g2 hkl hs hs2 hg hg2
          have hk := hp.st hs
          have hl := hp.st hs2
          have F1 : Fx n ((Pm.s k).m p) := (Fx.s hk).m hp
          have F2 : Fx n ((Pm.s l).m p) := (Fx.s hl).m hp
          have m1 := mu_st hp hs
          have m2 := mu_st hp hs2
          by_cases hf : k + 1 < l
          · have d1 : St ((Pm.s k).m p) l := (st_far (.inl hf)).2 hs2
            have d2 : St ((Pm.s l).m p) k := (st_far (.inr hf)).2 hs
            have e : (Pm.s l).m ((Pm.s k).m p) = (Pm.s k).m ((Pm.s l).m p) := by rw [← Pm.assoc, ← Pm.assoc, Pm.s_far hf]
            have m3 := mu_st F1 d1
            obtain ⟨h, hh⟩ := rd_ex R _ _ ((Fx.s hl).m F1) (Nat.le_refl _)
            have r1 := U _ F1 m1 _ _ hg (.mk _ l h d1 hh)
            have r2 := U _ F2 m2 _ _ hg2 (.mk _ k h d2 (by rw [← e]; exact hh))
            rw [r1, r2, ← R.assoc, ← R.assoc, R.far k l hf hl]
          · obtain rfl : l = k + 1 := by omega
            have hst1 : p.f (k + 1) < p.f k := hs
            have hst2 : p.f (k + 1 + 1) < p.f (k + 1) := hs2
            have a1 : sg k (k + 1 + 1) = k + 1 + 1 := sg_o (by omega) (by omega)
            have a2 : sg (k + 1) k = k := sg_o (by omega) (by omega)
            have a3 := sg_k k
            have a4 := sg_k1 k
            have a5 := sg_k (k + 1)
            have a6 := sg_k1 (k + 1)
            -- k, k+1, k
            have d1 : St ((Pm.s k).m p) (k + 1) := by
              show p.f (sg k (k + 1 + 1)) < p.f (sg k (k + 1)); rw [a1, a4]; omega
            have d2 : St ((Pm.s (k + 1)).m ((Pm.s k).m p)) k := by
              show p.f (sg k (sg (k + 1) (k + 1))) < p.f (sg k (sg (k + 1) k)); rw [a5, a2, a1, a3]; omega
            have d3 : St ((Pm.s (k + 1)).m p) k := by
              show p.f (sg (k + 1) (k + 1)) < p.f (sg (k + 1) k); rw [a5, a2]; omega
            have d4 : St ((Pm.s k).m ((Pm.s (k + 1)).m p)) (k + 1) := by
              show p.f (sg (k + 1) (sg k (k + 1 + 1))) < p.f (sg (k + 1) (sg k (k + 1))); rw [a1, a4, a6, a2]; omega
            have F3 : Fx n ((Pm.s (k + 1)).m ((Pm.s k).m p)) := (Fx.s hl).m F1
            have F4 : Fx n ((Pm.s k).m ((Pm.s (k + 1)).m p)) := (Fx.s hk).m F2
            have m3 := mu_st F1 d1
            have m4 := mu_st F2 d3
            have e : (Pm.s k).m ((Pm.s (k + 1)).m ((Pm.s k).m p)) = (Pm.s (k + 1)).m ((Pm.s k).m ((Pm.s (k + 1)).m p)) := by
              rw [← Pm.assoc, ← Pm.assoc, ← Pm.assoc, ← Pm.assoc, Pm.s_near]
            obtain ⟨h, hh⟩ := rd_ex R _ _ ((Fx.s hk).m F3) (Nat.le_refl _)
            have r1 := U _ F1 m1 _ _ hg (.mk _ (k + 1) _ d1 (.mk _ k h d2 hh))
            have r2 := U _ F2 m2 _ _ hg2 (.mk _ k _ d3 (.mk _ (k + 1) h d4 (by rw [← e]; exact hh)))
            have nr := R.near k (by omega)
            rw [r1, r2, ← R.assoc (R.s (k + 1)) (R.s k) h, ← R.assoc, nr, R.assoc, R.assoc]
        rcases Nat.lt_trichotomy k l with h | h | h
        · exact key k l g1 g2 h hs hs2 hg hg2
        · subst h
          rw [U _ F1 m1 _ _ hg hg2]
        · exact (key l k g2 g1 h hs2 hs hg2 hg).symm

theorem rd_one {g : G} (h : Rd R Pm.one g) : g = R.one := rd_uniq R _ _ (Fx.one n) (Nat.le_refl _) _ _ h .one
theorem rd_same {p : Pm} (hp : Fx n p) {g g' : G} (h : Rd R p g) (h' : Rd R p g') : g = g' := rd_uniq R _ p hp (Nat.le_refl _) _ _ h h'
theorem rd_get {p : Pm} (hp : Fx n p) : ∃ g, Rd R p g := rd_ex R _ p hp (Nat.le_refl _)
theorem rd_right {k : Nat} (hk : k + 1 < n) {a : Pm} {g : G} (h : Rd R a g) : Fx n a → ¬ En a k → Rd R (a.m (Pm.s k)) (R.mul g (R.s k)) := by
  induction h with
  | one =>
    intro _ _
    have hs : St (Pm.s k) k := by show sg k (k + 1) < sg k k; rw [sg_k, sg_k1]; omega
    have := Rd.mk (R := R) (Pm.s k) k R.one hs (by rw [Pm.ss]; exact .one)
    rw [R.mul_one] at this
    rw [Pm.one_m, R.one_mul]; exact this
  | mk p l g0 hs hg ih =>
    intro hp he
    have hl := hp.st hs
    have hst : p.f (l + 1) < p.f l := hs
    have hen : ¬ (p.g (k + 1) < p.g k) := he
    have ne1 : ¬ (p.f (l + 1) = k ∧ p.f l = k + 1) := fun ⟨e1, e2⟩ => hen (by
      have h1 := p.fg (l + 1); have h2 := p.fg l
      have h3 := p.gf (l + 1); have h4 := p.gf l
      first
        | (rw [e1] at h1; rw [e2] at h2; omega)
        | (rw [e1] at h3; rw [e2] at h4; omega))
    have d : St (p.m (Pm.s k)) l := by
      show sg k (p.f (l + 1)) < sg k (p.f l)
      exact sg_mono hst ne1
    have e' : ¬ En ((Pm.s l).m p) k := by
      show ¬ (sg l (p.g (k + 1)) < sg l (p.g k))
      have h1 : p.g k < p.g (k + 1) := not_en he
      have := sg_mono (k := l) h1 (fun ⟨e1, e2⟩ => by
        have h1 := p.fg k; have h2 := p.fg (k + 1)
        have h3 := p.gf k; have h4 := p.gf (k + 1)
        first
          | (rw [e1] at h1; rw [e2] at h2; omega)
          | (rw [e1] at h3; rw [e2] at h4; omega))
      omega
    have r := ih ((Fx.s hl).m hp) e'
    rw [R.assoc]
    exact .mk _ l _ d (by rw [← Pm.assoc]; exact r)
theorem rd_inv {p : Pm} {g : G} (h : Rd R p g) : Fx n p → ∃ g', R.mul g g' = R.one ∧ R.mul g' g = R.one := by
  induction h with
  | one => intro _; exact ⟨R.one, R.one_mul _, R.one_mul _⟩
  | mk p l g0 hs hg ih =>
    intro hp
    have hl := hp.st hs
    obtain ⟨g', h1, h2⟩ := ih ((Fx.s hl).m hp)
    refine ⟨R.mul g' (R.t l), ?_, ?_⟩
    · rw [R.assoc, ← R.assoc g0, h1, R.one_mul, R.st l hl]
    · rw [R.assoc, ← R.assoc (R.t l), R.ts l hl, R.one_mul, h2]
/-! ### the half twist -/
theorem tw_split {D : G} (hD : Rd R (Pm.tw n) D) {k : Nat} (hk : k + 1 < n) : ∃ u, Rd R ((Pm.tw n).m (Pm.s k)) u ∧ D = R.mul u (R.s k) ∧ D = R.mul (R.s (n - 2 - k)) u := by
  have F : Fx n ((Pm.tw n).m (Pm.s k)) := (tw_fx n).m (Fx.s hk)
  obtain ⟨u, hu⟩ := rd_get R F
  refine ⟨u, hu, ?_, ?_⟩
  · have he : ¬ En ((Pm.tw n).m (Pm.s k)) k := by
      show ¬ (twf n (sg k (k + 1)) < twf n (sg k k))
      rw [sg_k, sg_k1, twf_in (by omega), twf_in (by omega)]; omega
    have := rd_right R hk hu F he
    rw [Pm.assoc, Pm.ss, Pm.m_one] at this
    exact rd_same R (tw_fx n) hD this
  · have hs : St (Pm.tw n) (n - 2 - k) := st_tw (by omega)
    exact rd_same R (tw_fx n) hD (.mk _ _ u hs (by rw [tw_s hk]; exact hu))
theorem tw_slide {D : G} (hD : Rd R (Pm.tw n) D) {k : Nat} (hk : k + 1 < n) : R.mul (R.s (n - 2 - k)) D = R.mul D (R.s k) := by
  obtain ⟨u, _, h1, h2⟩ := tw_split R hD hk
  rw [h1, ← R.assoc, ← h2, ← h1]
theorem tw_pass {D : G} (hD : Rd R (Pm.tw n) D) {q : Pm} {g : G} (h : Rd R q g) : Fx n q → ∀ g', Rd R (tauP n q) g' → R.mul g D = R.mul D g' := by
  induction h with
  | one =>
    intro _ g' h'
    rw [tau_one] at h'
    rw [rd_one R h', R.one_mul, R.mul_one]
  | mk p l g0 hs hg ih =>
    intro hp g' h'
    have hl := hp.st hs
    have F := (Fx.s hl).m hp
    obtain ⟨h, hh⟩ := rd_get R (tau_fx F)
    have i1 := ih F h hh
    have d := tau_St hp hs
    have e : (Pm.s (n - 2 - l)).m (tauP n p) = tauP n ((Pm.s l).m p) := by rw [tau_m, tau_s hl]
    have r := rd_same R (tau_fx hp) h' (.mk _ _ h d (by rw [e]; exact hh))
    have sl := tw_slide R hD (k := n - 2 - l) (by omega)
    have e2 : n - 2 - (n - 2 - l) = l := by omega
    rw [e2] at sl
    rw [r, R.assoc, i1, ← R.assoc, sl, R.assoc]
/-! ### lists -/
inductive RdL : List Pm → G → Prop
  | nil : RdL [] R.one
  | cons (p : Pm) (L : List Pm) (g h : G) : Rd R p g → RdL L h → RdL (p :: L) (R.mul g h)
theorem rdl_get : ∀ L : List Pm, AFx n L → ∃ g, RdL R L g := by
  intro L
  induction L with
  | nil => intro _; exact ⟨_, .nil⟩
  | cons p L ih =>
    intro h
    obtain ⟨g, hg⟩ := rd_get R (h p (by simp))
    obtain ⟨k, hk⟩ := ih fun q hq => h q (by simp [hq])
    exact ⟨_, .cons p L g k hg hk⟩
theorem rdl_same {L : List Pm} {g : G} (h : RdL R L g) : AFx n L → ∀ g', RdL R L g' → g = g' := by
  induction h with
  | nil => intro _ g' h'; cases h'; rfl
  | cons p L g k hg hk ih =>
    intro hF g' h'
    cases h' with
    | cons _ _ g2 k2 h1 h2 => rw [rd_same R (hF p (by simp)) hg h1, ih (fun q hq => hF q (by simp [hq])) _ h2]
theorem rdl_app {L M : List Pm} {g h : G} (h1 : RdL R L g) (h2 : RdL R M h) : RdL R (L ++ M) (R.mul g h) := by
  induction h1 with
  | nil => rw [R.one_mul]; exact h2
  | cons p L g k hg hk ih => rw [R.assoc]; exact .cons p _ g _ hg ih
theorem rdl_split : ∀ (L : List Pm) {M : List Pm} {g : G}, RdL R (L ++ M) g → ∃ a b, RdL R L a ∧ RdL R M b ∧ g = R.mul a b := by
  intro L
  induction L with
  | nil => intro M g h; exact ⟨R.one, g, .nil, h, (R.one_mul _).symm⟩
  | cons p L ih =>
    intro M g h
    cases h with
    | cons _ _ a k ha hk =>
      obtain ⟨x, y, hx, hy, rfl⟩ := ih hk
      exact ⟨_, y, .cons p L a x ha hx, hy, (R.assoc _ _ _).symm⟩
theorem rdl_step {X Y : List Pm} (s : Step X Y) (hX : AFx n X) {g : G} (h : RdL R X g) : RdL R Y g := by
  obtain ⟨L, Q, a, b, k, hs, he⟩ := s
  obtain ⟨x, y, hx, hy, rfl⟩ := rdl_split R L h
  have Fa : Fx n a := hX a (by simp)
  have Fb : Fx n b := hX b (by simp)
  have hk := Fb.st hs
  cases hy with
  | cons _ _ ga y1 h1 h2 =>
    cases h2 with
    | cons _ _ gb y2 h3 h4 =>
      obtain ⟨c, hc⟩ := rd_get R ((Fx.s hk).m Fb)
      have e := rd_same R Fb h3 (.mk b k c hs hc)
      have r := rd_right R hk h1 Fa he
      have := rdl_app R hx (.cons _ _ _ _ r (.cons _ _ _ _ hc h4))
      rw [e]
      rw [R.assoc ga, ← R.assoc (R.s k)] at this
      exact this
theorem rdl_star {X Y : List Pm} (s : Star X Y) : AFx n X → ∀ {g : G}, RdL R X g → RdL R Y g := by
  induction s with
  | refl => intro _ g h; exact h
  | tail s _ ih => intro hX g h; exact ih (hX.step s) (rdl_step R s hX h)
theorem rdl_tau {D : G} (hD : Rd R (Pm.tw n) D) {L : List Pm} {g : G} (h : RdL R L g) : AFx n L → ∀ g', RdL R (L.map (tauP n)) g' → R.mul g D = R.mul D g' := by
  induction h with
  | nil => intro _ g' h'; cases h'; rw [R.one_mul, R.mul_one]
  | cons p L g k hg hk ih =>
    intro hF g' h'
    cases h' with
    | cons _ _ g2 k2 h1 h2 =>
      rw [R.assoc, ih (fun q hq => hF q (by simp [hq])) _ h2, ← R.assoc, tw_pass R hD hg (hF p (by simp)) _ h1, R.assoc]
/-! ### powers -/
def pw (x : G) : Nat → G
  | 0 => R.one
  | k + 1 => R.mul (pw x k) x
def pz (D D' : G) : Int → G
  | .ofNat k => pw R D k
  | .negSucc k => pw R D' (k + 1)
theorem pz_suc {D D' : G} (h : R.mul D' D = R.one) (e : Int) : pz R D D' (e + 1) = R.mul (pz R D D' e) D := by
  cases e with
  | ofNat k => rfl
  | negSucc k =>
    cases k with
    | zero =>
      show R.one = R.mul (R.mul R.one D') D
      rw [R.one_mul, h]
    | succ k =>
      show pw R D' (k + 1) = R.mul (R.mul (pw R D' (k + 1)) D') D
      rw [R.assoc, h, R.mul_one]
theorem pz_sub {D D' : G} (h : R.mul D' D = R.one) (e : Int) : ∀ i : Nat, R.mul (pz R D D' (e - i)) (pw R D i) = pz R D D' e := by
  intro i
  induction i generalizing e with
  | zero => show R.mul (pz R D D' (e - 0)) R.one = _; rw [R.mul_one, Int.sub_zero]
  | succ i ih =>
    have h1 := ih (e - 1)
    have e1 : e - ((i + 1 : Nat) : Int) = e - 1 - i := by omega
    have h2 := pz_suc R h (e - 1)
    rw [Int.sub_add_cancel] at h2
    show R.mul (pz R D D' (e - ((i + 1 : Nat) : Int))) (R.mul (pw R D i) D) = _
    rw [e1, ← R.assoc, h1, h2]
theorem rdl_rp {p : Pm} {g : G} (h : Rd R p g) : ∀ i, RdL R (rp i p) (pw R g i) := by
  intro i
  induction i with
  | zero => exact .nil
  | succ i ih =>
    have e : rp (i + 1) p = rp i p ++ rp 1 p := (rp_add i 1 p).symm
    rw [e]
    have h1 : RdL R (rp 1 p) g := by have := RdL.cons (R := R) p [] g R.one h .nil; rw [R.mul_one] at this; exact this
    exact rdl_app R ih h1
theorem pw_one : ∀ i, pw R R.one i = R.one := by
  intro i
  induction i with
  | zero => rfl
  | succ i ih => show R.mul (pw R R.one i) R.one = _; rw [R.mul_one, ih]
/-! ### states -/
def RS (D D' : G) (s : Stt) (g : G) : Prop := ∃ h, RdL R s.2 h ∧ g = R.mul (pz R D D' s.1) h
theorem rs_same {D D' : G} {s : Stt} (hs : AFx n s.2) {g g' : G} (h : RS R D D' s g) (h' : RS R D D' s g') : g = g' := by
  obtain ⟨a, ha, rfl⟩ := h
  obtain ⟨b, hb, rfl⟩ := h'
  rw [rdl_same R ha hs _ hb]
def lt1 (x : Int) : G := if 0 < x then R.s (plN x) else R.t (plN x)
def wv (xs : List Int) : G := xs.foldl (fun g x => R.mul g (lt1 R x)) R.one
theorem rs_act {D D' : G} (hD : Rd R (Pm.tw n) D) (hDD : R.mul D' D = R.one) {s : Stt} (hs : AFx n s.2) {x : Int} (hx : Ltr n x) {g : G} (h : RS R D D' s g) : RS R D D' (actS n s x) (R.mul g (lt1 R x)) := by
  obtain ⟨a, ha, rfl⟩ := h
  obtain ⟨hx0, hxn⟩ := hx
  unfold actS lt1
  by_cases c : 0 < x
  · rw [if_pos c, if_pos c]
    have hst : St (Pm.s (plN x)) (plN x) := by show sg (plN x) (plN x + 1) < sg (plN x) (plN x); rw [sg_k, sg_k1]; omega
    have h1 : Rd R (Pm.s (plN x)) (R.s (plN x)) := by
      have := Rd.mk (R := R) (Pm.s (plN x)) (plN x) R.one hst (by rw [Pm.ss]; exact .one)
      rw [R.mul_one] at this; exact this
    have h2 : RdL R [Pm.s (plN x)] (R.s (plN x)) := by have := RdL.cons (R := R) _ [] _ R.one h1 .nil; rw [R.mul_one] at this; exact this
    exact ⟨_, rdl_app R ha h2, by rw [R.assoc]⟩
  · rw [if_neg c, if_neg c]
    obtain ⟨u, hu, e1, _⟩ := tw_split R hD hxn
    obtain ⟨b, hb⟩ := rdl_get R (s.2.map (tauP n)) (fun p hp => by obtain ⟨q, hq, rfl⟩ := List.mem_map.1 hp; exact tau_fx (hs q hq))
    have h2 : RdL R [(Pm.tw n).m (Pm.s (plN x))] u := by have := RdL.cons (R := R) _ [] _ R.one hu .nil; rw [R.mul_one] at this; exact this
    have hF : AFx n (s.2.map (tauP n)) := fun p hp => by obtain ⟨q, hq, rfl⟩ := List.mem_map.1 hp; exact tau_fx (hs q hq)
    have h3 := rdl_tau R hD hb hF a (by rw [tau_map_map]; exact ha)
    have h4 := pz_suc R hDD (s.1 - 1)
    rw [Int.sub_add_cancel] at h4
    have eu : u = R.mul D (R.t (plN x)) := by rw [e1, R.assoc, R.st _ hxn, R.mul_one]
    refine ⟨_, rdl_app R hb h2, ?_⟩
    show R.mul (R.mul (pz R D D' s.1) a) (R.t (plN x)) = R.mul (pz R D D' (s.1 - 1)) (R.mul b u)
    rw [h4, eu, ← R.assoc b, h3]
    simp only [R.assoc]
theorem rs_beg {D D' : G} (hD : Rd R (Pm.tw n) D) (hDD : R.mul D' D = R.one) : ∀ (xs : List Int) {s : Stt} {g : G}, AFx n s.2 → (∀ x ∈ xs, Ltr n x) → RS R D D' s g → RS R D D' (begS n s xs) (xs.foldl (fun g x => R.mul g (lt1 R x)) g) := by
  intro xs
  induction xs with
  | nil => intro s g _ _ h; exact h
  | cons x xs ih => intro s g hs hx h; exact ih (act_fx hs (hx x (by simp))) (fun y hy => hx y (by simp [hy])) (rs_act R hD hDD hs (hx x (by simp)) h)
theorem rs_sim {D D' : G} (hD : Rd R (Pm.tw n) D) (hDD : R.mul D' D = R.one) {s t : Stt} (hs : AFx n s.2) (ht : AFx n t.2) (h : Sim n s t) {g g' : G} (h1 : RS R D D' s g) (h2 : RS R D D' t g') : g = g' := by
  obtain ⟨a, ha, rfl⟩ := h1
  obtain ⟨b, hb, rfl⟩ := h2
  obtain ⟨i, j, i', j', e, Z, z1, z2⟩ := h
  have p1 := rdl_app R (rdl_app R (rdl_rp R hD i) ha) (rdl_rp R .one j)
  have p2 := rdl_app R (rdl_app R (rdl_rp R hD i') hb) (rdl_rp R .one j')
  have q1 := rdl_star R z1 hs.pad p1
  have q2 := rdl_star R z2 ht.pad p2
  have q3 := rdl_same R q1 (hs.pad.star z1) _ q2
  rw [pw_one, pw_one, R.mul_one, R.mul_one] at q3
  rw [← pz_sub R hDD s.1 i, ← pz_sub R hDD t.1 i', R.assoc, R.assoc, q3, e]
/-- equal normal forms, equal elements -/
theorem rep_eq {xs ys : List Int} (hx : ∀ x ∈ xs, Ltr n x) (hy : ∀ x ∈ ys, Ltr n x) {r : Int × List (List Int)} (h1 : NFo n (begS n (0, []) xs) r) (h2 : NFo n (begS n (0, []) ys) r) : wv R xs = wv R ys := by
  obtain ⟨D, hD⟩ := rd_get R (tw_fx n)
  obtain ⟨D', _, hDD⟩ := rd_inv R hD (tw_fx n)
  have F0 : AFx n ((0, []) : Stt).2 := fun p hp => by cases hp
  have F1 := beg_fx xs _ F0 hx
  have F2 := beg_fx ys _ F0 hy
  obtain ⟨Z, z1, z2, z3⟩ := nfo_back F1 h1
  obtain ⟨Z', y1, y2, y3⟩ := nfo_back F2 h2
  have hZ : Z = Z' := by
    have e : Z.map (toL n) = Z'.map (toL n) := z2.symm.trans y2
    have hl : Z.length = Z'.length := by have := congrArg List.length e; simpa using this
    refine List.ext_getElem hl fun i q1 q2 => ?_
    have := congrArg (fun l : List (List Int) => l[i]?) e
    simp only [List.getElem?_map, List.getElem?_eq_getElem q1, List.getElem?_eq_getElem q2, Option.map_some] at this
    exact toL_inj (z1 _ (List.getElem_mem q1)) (y1 _ (List.getElem_mem q2)) (Option.some.inj this)
  subst hZ
  have r0 : RS R D D' (0, []) R.one := ⟨R.one, .nil, by show R.one = R.mul R.one R.one; rw [R.one_mul]⟩
  have r1 := rs_beg R hD hDD xs F0 hx r0
  have r2 := rs_beg R hD hDD ys F0 hy r0
  exact rs_sim R hD hDD F1 F2 (Sim.trans z1 z3 y3.symm) r1 r2
end Go.Proofs.YtdkpalllfekiiaaGreat
