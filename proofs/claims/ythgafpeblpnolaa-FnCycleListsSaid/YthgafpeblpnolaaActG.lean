/-
  A group of renamings at work on the elements of a list: least forms, and how many elements the least ones stand for.
  No condition.
-/
import Derived.Test.YthgafpeblpnolaaBase3
namespace Go.Proofs.Ythgafpeblpnolaa
set_option maxRecDepth 100000
set_option linter.unusedVariables false
set_option linter.unusedSimpArgs false

/-- what the renamings do -/
structure Wrk {α γ : Type} (G : List γ) (act : γ → α → α) (cp : γ → γ → γ) (S : α → Prop) : Prop where
  nd : G.Nodup
  st : ∀ t, S t → ∀ p, p ∈ G → S (act p t)
  cm : ∀ p q, p ∈ G → q ∈ G → cp p q ∈ G
  ac : ∀ p q, p ∈ G → q ∈ G → ∀ t, S t → act q (act p t) = act (cp p q) t
  un : ∃ e, e ∈ G ∧ ∀ t, S t → act e t = t
  bk : ∀ p, p ∈ G → ∃ r, r ∈ G ∧ ∀ t, S t → act r (act p t) = t
  ij : ∀ p p' q, p ∈ G → p' ∈ G → q ∈ G → cp p q = cp p' q → p = p'

section
variable {α γ : Type} {G : List γ} {act : γ → α → α} {cp : γ → γ → γ} {S : α → Prop} {c : α → α → Int}
/-- the smallest of a list -/
def minL (c : α → α → Int) (b : α) (l : List α) : α := l.foldl (fun b x => if c x b < 0 then x else b) b
theorem minL_spec (hc : Cmp c) : ∀ (l : List α) (b : α), (minL c b l = b ∨ minL c b l ∈ l) ∧ ¬ c b (minL c b l) < 0 ∧ ∀ x, x ∈ l → ¬ c x (minL c b l) < 0 := by
  intro l
  induction l with
  | nil =>
    intro b
    refine ⟨.inl rfl, ?_, fun x h => by simp at h⟩
    show ¬ c b b < 0
    rw [hc.refl]; omega
  | cons x l ih =>
    intro b
    have e : minL c b (x :: l) = minL c (if c x b < 0 then x else b) l := rfl
    rw [e]
    by_cases h : c x b < 0
    · rw [if_pos h]
      obtain ⟨h1, h2, h3⟩ := ih x
      refine ⟨?_, ?_, ?_⟩
      · rcases h1 with h1 | h1
        · exact .inr (by rw [h1]; simp)
        · exact .inr (by simp [h1])
      · intro h4
        exact h2 (hc.trans _ _ _ h h4)
      · intro y hy
        rcases List.mem_cons.1 hy with r | r
        · rw [r]; exact h2
        · exact h3 y r
    · rw [if_neg h]
      obtain ⟨h1, h2, h3⟩ := ih b
      refine ⟨?_, h2, ?_⟩
      · rcases h1 with h1 | h1
        · exact .inl h1
        · exact .inr (by simp [h1])
      · intro y hy
        rcases List.mem_cons.1 hy with r | r
        · rw [r]; intro h4
          exact h2 (hc.le_lt h h4)
        · exact h3 y r
/-- the least form -/
def lfm (c : α → α → Int) (act : γ → α → α) (G : List γ) (t : α) : α := minL c t (G.map fun p => act p t)
theorem lfm_at (hc : Cmp c) (hw : Wrk G act cp S) {t : α} (h : S t) : ∃ p, p ∈ G ∧ lfm c act G t = act p t := by
  rcases (minL_spec hc (G.map fun p => act p t) t).1 with e | e
  · obtain ⟨u, hu, hu2⟩ := hw.un
    exact ⟨u, hu, by unfold lfm; rw [e, hu2 t h]⟩
  · obtain ⟨p, hp, e⟩ := List.mem_map.1 e
    exact ⟨p, hp, e.symm⟩
theorem lfm_le (hc : Cmp c) {t : α} {p : γ} (hp : p ∈ G) : ¬ c (act p t) (lfm c act G t) < 0 :=
  (minL_spec hc (G.map fun p => act p t) t).2.2 _ (List.mem_map.2 ⟨p, hp, rfl⟩)
theorem lfm_act (hc : Cmp c) (hw : Wrk G act cp S) {t : α} (h : S t) {p : γ} (hp : p ∈ G) : lfm c act G (act p t) = lfm c act G t := by
  obtain ⟨q, hq, e1⟩ := lfm_at hc hw (hw.st t h p hp)
  obtain ⟨r, hr, e2⟩ := lfm_at hc hw h
  have a1 : ¬ c (lfm c act G (act p t)) (lfm c act G t) < 0 := by
    rw [e1, hw.ac p q hp hq t h]
    exact lfm_le hc (hw.cm p q hp hq)
  have a2 : ¬ c (lfm c act G t) (lfm c act G (act p t)) < 0 := by
    obtain ⟨i, hi, hb⟩ := hw.bk p hp
    have : act r t = act (cp i r) (act p t) := by
      rw [← hw.ac i r hi hr _ (hw.st t h p hp), hb t h]
    rw [e2, this]
    exact lfm_le hc (hw.cm i r hi hr)
  have := hc.anti (lfm c act G (act p t)) (lfm c act G t)
  exact (hc.eq _ _).1 (by omega)
theorem lfm_lfm (hc : Cmp c) (hw : Wrk G act cp S) {t : α} (h : S t) : lfm c act G (lfm c act G t) = lfm c act G t := by
  obtain ⟨p, hp, e⟩ := lfm_at hc hw h
  conv => lhs; rw [e]
  exact lfm_act hc hw h hp
theorem lfm_one (hc : Cmp c) (hw : Wrk G act cp S) {t s : α} (h : S t) (hs : S s) (e : lfm c act G t = lfm c act G s) : ∃ p, p ∈ G ∧ act p t = s := by
  obtain ⟨p, hp, e1⟩ := lfm_at hc hw h
  obtain ⟨q, hq, e2⟩ := lfm_at hc hw hs
  obtain ⟨r, hr, hb⟩ := hw.bk q hq
  refine ⟨cp p r, hw.cm p r hp hr, ?_⟩
  rw [← hw.ac p r hp hr t h, ← e1, e, e2, hb s hs]

/-! ### counting -/
theorem sum_zero {β : Type} : ∀ R : List β, (R.map fun _ => 0).sum = 0 := by
  intro R
  induction R with
  | nil => rfl
  | cons a R ih => rw [List.map_cons, List.sum_cons, ih]
theorem sub_perm {β : Type} : ∀ {l m : List β}, l.Nodup → (∀ x, x ∈ l → x ∈ m) → m.length ≤ l.length → l.Perm m := by
  intro l
  induction l with
  | nil => intro m _ _ h; rw [List.eq_nil_of_length_eq_zero (Nat.le_zero.1 h)]
  | cons a l ih =>
    intro m hn hs hl
    rw [List.nodup_cons] at hn
    obtain ⟨s, t, rfl⟩ := List.append_of_mem (hs a (by simp))
    refine List.Perm.trans ?_ List.perm_middle.symm
    refine List.Perm.cons a (ih hn.2 (fun x hx => ?_) (by simp at hl ⊢; omega))
    have := hs x (by simp [hx])
    rw [List.mem_append, List.mem_cons] at this
    rw [List.mem_append]
    rcases this with h | h | h
    · exact .inl h
    · exact absurd (h ▸ hx) hn.1
    · exact .inr h
theorem count_one {β : Type} [DecidableEq β] : ∀ (R : List β) (b : β), R.Nodup → b ∈ R → (R.map fun r => if b = r then 1 else 0).sum = 1 := by
  intro R
  induction R with
  | nil => intro b _ h; simp at h
  | cons a R ih =>
    intro b hn hb
    rw [List.nodup_cons] at hn
    rw [List.map_cons, List.sum_cons]
    by_cases e : b = a
    · rw [if_pos e]
      have : (R.map fun r => if b = r then 1 else 0).sum = 0 := by
        have hz : ∀ r ∈ R, (if b = r then 1 else 0) = 0 := fun r hr => if_neg (fun e2 => hn.1 (by rw [← e, e2]; exact hr))
        rw [List.map_congr_left hz, sum_zero]
      omega
    · rw [if_neg e, ih b hn.2 (by rcases List.mem_cons.1 hb with r | r; exact absurd r e; exact r)]
theorem sum_add {β : Type} (f g : β → Nat) : ∀ R : List β, (R.map fun r => f r + g r).sum = (R.map f).sum + (R.map g).sum := by
  intro R
  induction R with
  | nil => rfl
  | cons a R ih => simp only [List.map_cons, List.sum_cons, ih]; omega
/-- a list is parted by what a function answers -/
theorem part_len {β : Type} [DecidableEq β] (f : α → β) {R : List β} (hR : R.Nodup) : ∀ l : List α, (∀ x, x ∈ l → f x ∈ R) → (R.map fun r => (l.filter fun x => decide (f x = r)).length).sum = l.length := by
  intro l
  induction l with
  | nil =>
    intro _
    simp only [List.filter_nil, List.length_nil]
    exact sum_zero R
  | cons x l ih =>
    intro h
    have e : ∀ r, ((x :: l).filter fun y => decide (f y = r)).length = (if f x = r then 1 else 0) + (l.filter fun y => decide (f y = r)).length := fun r => by
      rw [List.filter_cons]
      by_cases e : f x = r
      · rw [if_pos (by simpa using e), if_pos e, List.length_cons]; omega
      · rw [if_neg (by simpa using e), if_neg e]; omega
    rw [List.map_congr_left (fun r _ => e r), sum_add, count_one R (f x) hR (h x (by simp)), ih fun y hy => h y (by simp [hy]), List.length_cons]
    omega
theorem sum_const (k : Nat) : ∀ (l : List α) (f : α → Nat), (∀ x, x ∈ l → f x = k) → (l.map f).sum = l.length * k := by
  intro l
  induction l with
  | nil => intro f _; simp
  | cons x l ih =>
    intro f h
    rw [List.map_cons, List.sum_cons, ih f fun y hy => h y (by simp [hy]), h x (by simp), List.length_cons, Nat.succ_mul]
    omega
variable [DecidableEq α]
/-- how many renamings keep an element -/
def kpN (act : γ → α → α) (G : List γ) (t : α) : Nat := (G.filter fun p => decide (act p t = t)).length
theorem filt_perm {l m : List γ} (h : l.Perm m) (P : γ → Bool) : (l.filter P).length = (m.filter P).length := (h.filter P).length_eq
/-- as many renamings lead an element to each one that it is led to -/
theorem kp_at (hw : Wrk G act cp S) {t : α} (h : S t) {q : γ} (hq : q ∈ G) : (G.filter fun p => decide (act p t = act q t)).length = kpN act G t := by
  have hp : (G.map fun p => cp p q).Perm G := by
    have hnd : (G.map fun p => cp p q).Nodup := by
      rw [List.nodup_iff_pairwise_ne] at *
      rw [List.pairwise_map]
      have := hw.nd
      rw [List.nodup_iff_pairwise_ne] at this
      refine List.Pairwise.imp_of_mem ?_ this
      intro a b ha hb hne e
      exact hne (hw.ij a b q ha hb hq e)
    refine sub_perm hnd (fun x hx => ?_) (by simp)
    obtain ⟨p, hp, rfl⟩ := List.mem_map.1 hx
    exact hw.cm p q hp hq
  rw [← filt_perm hp, List.filter_map, List.length_map]
  unfold kpN
  congr 1
  refine List.filter_congr fun p hp => ?_
  show decide (act (cp p q) t = act q t) = decide (act p t = t)
  rw [← hw.ac p q hp hq t h]
  apply decide_eq_decide.2
  constructor
  · intro e
    obtain ⟨r, hr, hb⟩ := hw.bk q hq
    have := congrArg (act r) e
    rwa [hb _ (hw.st t h p hp), hb t h] at this
  · intro e; rw [e]
theorem kp_pos (hw : Wrk G act cp S) {t : α} (h : S t) : 1 ≤ kpN act G t := by
  obtain ⟨e, he, hu⟩ := hw.un
  have : e ∈ G.filter fun p => decide (act p t = t) := List.mem_filter.2 ⟨he, by simpa using hu t h⟩
  exact List.length_pos_of_mem this
/-- all elements are as many as, over the least ones, the renamings divided by those that keep them -/
theorem orbits (hc : Cmp c) (hw : Wrk G act cp S) {T : List α} (hT : T.Nodup) (hs : ∀ t, t ∈ T → S t) (hcl : ∀ t, t ∈ T → ∀ p, p ∈ G → act p t ∈ T) :
    ((T.filter fun t => decide (t = lfm c act G t)).map fun t => G.length / kpN act G t).sum = T.length := by
  have hR : (T.filter fun t => decide (t = lfm c act G t)).Nodup := hT.filter _
  have hin : ∀ t, t ∈ T → lfm c act G t ∈ T.filter fun t => decide (t = lfm c act G t) := fun t ht => by
    obtain ⟨p, hp, e⟩ := lfm_at hc hw (hs t ht)
    refine List.mem_filter.2 ⟨by rw [e]; exact hcl t ht p hp, ?_⟩
    rw [lfm_lfm hc hw (hs t ht)]; simp
  rw [← part_len (lfm c act G) hR T hin]
  congr 1
  refine List.map_congr_left fun r hr => ?_
  obtain ⟨hrT, hre⟩ := List.mem_filter.1 hr
  have hre : r = lfm c act G r := by simpa using hre
  have hsr := hs r hrT
  have hO : (T.filter fun t => decide (lfm c act G t = r)).Nodup := hT.filter _
  have h1 := part_len (fun p => act p r) hO G (fun p hp => List.mem_filter.2 ⟨hcl r hrT p hp, by
    have := lfm_act hc hw hsr hp
    simp [this, ← hre]⟩)
  rw [sum_const (kpN act G r)] at h1
  · rw [← h1]
    exact Nat.mul_div_cancel _ (kp_pos hw hsr)
  · intro t ht
    obtain ⟨htT, hte⟩ := List.mem_filter.1 ht
    have hte : lfm c act G t = r := by simpa using hte
    obtain ⟨q, hq, e⟩ := lfm_one hc hw hsr (hs t htT) (by rw [← hre, hte])
    rw [← e]
    exact kp_at hw hsr hq
end
end Go.Proofs.Ythgafpeblpnolaa
