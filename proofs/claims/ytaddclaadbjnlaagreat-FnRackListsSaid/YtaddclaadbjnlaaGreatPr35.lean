/-
  Walks and plain laws of this seat, some texts in one.
  No condition but bounds on lengths.
-/
import Derived.Test.YtaddclaadbjnlaaGreatPr32
import Derived.Test.YtaddclaadbjnlaaGreatPr31
import Derived.Test.YtaddclaadbjnlaaGreatPr23
import Derived.Test.YtaddclaadbjnlaaGreatPr22
import Derived.Test.YtaddclaadbjnlaaGreatPr12
import Derived.Test.YtaddclaadbjnlaaGreatPr15
namespace Go.Proofs.YtaddclaadbjnlaaGreat
set_option maxRecDepth 100000
set_option linter.unusedVariables false
set_option linter.unusedSimpArgs false
structure Wrk {α γ : Type} (G : List γ) (act : γ → α → α) (cp : γ → γ → γ) (S : α → Prop) : Prop where
  nd : G.Nodup
  st : ∀ t, S t → ∀ p, p ∈ G → S (act p t)
  cm : ∀ p q, p ∈ G → q ∈ G → cp p q ∈ G
  ac : ∀ p q, p ∈ G → q ∈ G → ∀ t, S t → act q (act p t) = act (cp p q) t
  un : ∃ e, e ∈ G ∧ ∀ t, S t → act e t = t
  bk : ∀ p, p ∈ G → ∃ r, r ∈ G ∧ ∀ t, S t → act r (act p t) = t
  ij : ∀ p p' q, p ∈ G → p' ∈ G → q ∈ G → cp p q = cp p' q → p = p'
section
variable {α γ : Type} {G : List γ} {act : γ → α → α} {cp : γ → γ → γ} {S : α → Prop} {c : α → α → Int}
def minL (c : α → α → Int) (b : α) (l : List α) : α := l.foldl (fun b x => if c x b < 0 then x else b) b
theorem minL_spec (hc : Cmp c) : ∀ (l : List α) (b : α), (minL c b l = b ∨ minL c b l ∈ l) ∧ ¬ c b (minL c b l) < 0 ∧ ∀ x, x ∈ l → ¬ c x (minL c b l) < 0 := by
  intro l
  induction l with
  | nil =>
    intro b
    refine ⟨.inl rfl, ?_, fun x h => by simp at h⟩
    show ¬ c b b < 0
    rw [hc.refl]; omega
  | cons x l ih =>
    intro b
    have e : minL c b (x :: l) = minL c (if c x b < 0 then x else b) l := rfl
    rw [e]
    by_cases h : c x b < 0
    · rw [if_pos h]
      obtain ⟨h1, h2, h3⟩ := ih x
      refine ⟨?_, ?_, ?_⟩
      · rcases h1 with h1 | h1
        · exact .inr (by rw [h1]; simp)
        · exact .inr (by simp [h1])
      · intro h4
        exact h2 (hc.trans _ _ _ h h4)
      · intro y hy
        rcases List.mem_cons.1 hy with r | r
        · rw [r]; exact h2
        · exact h3 y r
    · rw [if_neg h]
      obtain ⟨h1, h2, h3⟩ := ih b
      refine ⟨?_, h2, ?_⟩
      · rcases h1 with h1 | h1
        · exact .inl h1
        · exact .inr (by simp [h1])
      · intro y hy
        rcases List.mem_cons.1 hy with r | r
        · rw [r]; intro h4
          exact h2 (hc.le_lt h h4)
        · exact h3 y r
def lfm (c : α → α → Int) (act : γ → α → α) (G : List γ) (t : α) : α := minL c t (G.map fun p => act p t)
theorem lfm_at (hc : Cmp c) (hw : Wrk G act cp S) {t : α} (h : S t) : ∃ p, p ∈ G ∧ lfm c act G t = act p t := by
  rcases (minL_spec hc (G.map fun p => act p t) t).1 with e | e
  · obtain ⟨u, hu, hu2⟩ := hw.un
    exact ⟨u, hu, by unfold lfm; rw [e, hu2 t h]⟩
  · obtain ⟨p, hp, e⟩ := List.mem_map.1 e
    exact ⟨p, hp, e.symm⟩
theorem lfm_le (hc : Cmp c) {t : α} {p : γ} (hp : p ∈ G) : ¬ c (act p t) (lfm c act G t) < 0 :=
  (minL_spec hc (G.map fun p => act p t) t).2.2 _ (List.mem_map.2 ⟨p, hp, rfl⟩)
theorem lfm_act (hc : Cmp c) (hw : Wrk G act cp S) {t : α} (h : S t) {p : γ} (hp : p ∈ G) : lfm c act G (act p t) = lfm c act G t := by
  obtain ⟨q, hq, e1⟩ := lfm_at hc hw (hw.st t h p hp)
  obtain ⟨r, hr, e2⟩ := lfm_at hc hw h
  have a1 : ¬ c (lfm c act G (act p t)) (lfm c act G t) < 0 := by
    rw [e1, hw.ac p q hp hq t h]
    exact lfm_le hc (hw.cm p q hp hq)
  have a2 : ¬ c (lfm c act G t) (lfm c act G (act p t)) < 0 := by
    obtain ⟨i, hi, hb⟩ := hw.bk p hp
    have : act r t = act (cp i r) (act p t) := by
      rw [← hw.ac i r hi hr _ (hw.st t h p hp), hb t h]
    rw [e2, this]
    exact lfm_le hc (hw.cm i r hi hr)
  have := hc.anti (lfm c act G (act p t)) (lfm c act G t)
  exact (hc.eq _ _).1 (by omega)
theorem lfm_lfm (hc : Cmp c) (hw : Wrk G act cp S) {t : α} (h : S t) : lfm c act G (lfm c act G t) = lfm c act G t := by
  obtain ⟨p, hp, e⟩ := lfm_at hc hw h
  conv => lhs; rw [e]
  exact lfm_act hc hw h hp
theorem lfm_one (hc : Cmp c) (hw : Wrk G act cp S) {t s : α} (h : S t) (hs : S s) (e : lfm c act G t = lfm c act G s) : ∃ p, p ∈ G ∧ act p t = s := by
  obtain ⟨p, hp, e1⟩ := lfm_at hc hw h
  obtain ⟨q, hq, e2⟩ := lfm_at hc hw hs
  obtain ⟨r, hr, hb⟩ := hw.bk q hq
  refine ⟨cp p r, hw.cm p r hp hr, ?_⟩
  rw [← hw.ac p r hp hr t h, ← e1, e, e2, hb s hs]
/-! ### counting -/
theorem sum_zero {β : Type} : ∀ R : List β, (R.map fun _ => 0).sum = 0 := by
  intro R
  induction R with
  | nil => rfl
  | cons a R ih => rw [List.map_cons, List.sum_cons, ih]
theorem sub_perm {β : Type} : ∀ {l m : List β}, l.Nodup → (∀ x, x ∈ l → x ∈ m) → m.length ≤ l.length → l.Perm m := by
  intro l
  induction l with
  | nil => intro m _ _ h; rw [List.eq_nil_of_length_eq_zero (Nat.le_zero.1 h)]
  | cons a l ih =>
    intro m hn hs hl
    rw [List.nodup_cons] at hn
    obtain ⟨s, t, rfl⟩ := List.append_of_mem (hs a (by simp))
    refine List.Perm.trans ?_ List.perm_middle.symm
    refine List.Perm.cons a (ih hn.2 (fun x hx => ?_) (by simp at hl ⊢; omega))
    have := hs x (by simp [hx])
    rw [List.mem_append, List.mem_cons] at this
    rw [List.mem_append]
    rcases this with h | h | h
    · exact .inl h
    · exact absurd (h ▸ hx) hn.1
    · exact .inr h
theorem count_one {β : Type} [DecidableEq β] : ∀ (R : List β) (b : β), R.Nodup → b ∈ R → (R.map fun r => if b = r then 1 else 0).sum = 1 := by
  intro R
  induction R with
  | nil => intro b _ h; simp at h
  | cons a R ih =>
    intro b hn hb
    rw [List.nodup_cons] at hn
    rw [List.map_cons, List.sum_cons]
    by_cases e : b = a
    · rw [if_pos e]
      have : (R.map fun r => if b = r then 1 else 0).sum = 0 := by
        have hz : ∀ r ∈ R, (if b = r then 1 else 0) = 0 := fun r hr => if_neg (fun e2 => hn.1 (by rw [← e, e2]; exact hr))
        rw [List.map_congr_left hz, sum_zero]
      omega
    · rw [if_neg e, ih b hn.2 (by rcases List.mem_cons.1 hb with r | r; exact absurd r e; exact r)]
theorem sum_add {β : Type} (f g : β → Nat) : ∀ R : List β, (R.map fun r => f r + g r).sum = (R.map f).sum + (R.map g).sum := by
  intro R
  induction R with
  | nil => rfl
  | cons a R ih => simp only [List.map_cons, List.sum_cons, ih]; omega
theorem part_len {β : Type} [DecidableEq β] (f : α → β) {R : List β} (hR : R.Nodup) : ∀ l : List α, (∀ x, x ∈ l → f x ∈ R) → (R.map fun r => (l.filter fun x => decide (f x = r)).length).sum = l.length := by
  intro l
  induction l with
  | nil =>
    intro _
    simp only [List.filter_nil, List.length_nil]
    exact sum_zero R
  | cons x l ih =>
    intro h
    have e : ∀ r, ((x :: l).filter fun y => decide (f y = r)).length = (if f x = r then 1 else 0) + (l.filter fun y => decide (f y = r)).length := fun r => by
      rw [List.filter_cons]
      by_cases e : f x = r
      · rw [if_pos (by simpa using e), if_pos e, List.length_cons]; omega
      · rw [if_neg (by simpa using e), if_neg e]; omega
    rw [List.map_congr_left (fun r _ => e r), sum_add, count_one R (f x) hR (h x (by simp)), ih fun y hy => h y (by simp [hy]), List.length_cons]
    omega
theorem sum_const (k : Nat) : ∀ (l : List α) (f : α → Nat), (∀ x, x ∈ l → f x = k) → (l.map f).sum = l.length * k := by
  intro l
  induction l with
  | nil => intro f _; simp
  | cons x l ih =>
    intro f h
    rw [List.map_cons, List.sum_cons, ih f fun y hy => h y (by simp [hy]), h x (by simp), List.length_cons, Nat.succ_mul]
    omega
variable [DecidableEq α]
def kpN (act : γ → α → α) (G : List γ) (t : α) : Nat := (G.filter fun p => decide (act p t = t)).length
theorem filt_perm {l m : List γ} (h : l.Perm m) (P : γ → Bool) : (l.filter P).length = (m.filter P).length := (h.filter P).length_eq
theorem kp_at (hw : Wrk G act cp S) {t : α} (h : S t) {q : γ} (hq : q ∈ G) : (G.filter fun p => decide (act p t = act q t)).length = kpN act G t := by
  have hp : (G.map fun p => cp p q).Perm G := by
    have hnd : (G.map fun p => cp p q).Nodup := by
      rw [List.nodup_iff_pairwise_ne] at *
      rw [List.pairwise_map]
      have := hw.nd
      rw [List.nodup_iff_pairwise_ne] at this
      refine List.Pairwise.imp_of_mem ?_ this
      intro a b ha hb hne e
      exact hne (hw.ij a b q ha hb hq e)
    refine sub_perm hnd (fun x hx => ?_) (by simp)
    obtain ⟨p, hp, rfl⟩ := List.mem_map.1 hx
    exact hw.cm p q hp hq
  rw [← filt_perm hp, List.filter_map, List.length_map]
  unfold kpN
  congr 1
  refine List.filter_congr fun p hp => ?_
  show decide (act (cp p q) t = act q t) = decide (act p t = t)
  rw [← hw.ac p q hp hq t h]
  apply decide_eq_decide.2
  constructor
  · intro e
    obtain ⟨r, hr, hb⟩ := hw.bk q hq
    have := congrArg (act r) e
    rwa [hb _ (hw.st t h p hp), hb t h] at this
  · intro e; rw [e]
theorem kp_pos (hw : Wrk G act cp S) {t : α} (h : S t) : 1 ≤ kpN act G t := by
  obtain ⟨e, he, hu⟩ := hw.un
  have : e ∈ G.filter fun p => decide (act p t = t) := List.mem_filter.2 ⟨he, by simpa using hu t h⟩
  exact List.length_pos_of_mem this
theorem orbits (hc : Cmp c) (hw : Wrk G act cp S) {T : List α} (hT : T.Nodup) (hs : ∀ t, t ∈ T → S t) (hcl : ∀ t, t ∈ T → ∀ p, p ∈ G → act p t ∈ T) :
    ((T.filter fun t => decide (t = lfm c act G t)).map fun t => G.length / kpN act G t).sum = T.length := by
  have hR : (T.filter fun t => decide (t = lfm c act G t)).Nodup := hT.filter _
  have hin : ∀ t, t ∈ T → lfm c act G t ∈ T.filter fun t => decide (t = lfm c act G t) := fun t ht => by
    obtain ⟨p, hp, e⟩ := lfm_at hc hw (hs t ht)
    refine List.mem_filter.2 ⟨by rw [e]; exact hcl t ht p hp, ?_⟩
    rw [lfm_lfm hc hw (hs t ht)]; simp
  rw [← part_len (lfm c act G) hR T hin]
  congr 1
  refine List.map_congr_left fun r hr => ?_
  obtain ⟨hrT, hre⟩ := List.mem_filter.1 hr
  have hre : r = lfm c act G r := by simpa using hre
  have hsr := hs r hrT
  have hO : (T.filter fun t => decide (lfm c act G t = r)).Nodup := hT.filter _
  have h1 := part_len (fun p => act p r) hO G (fun p hp => List.mem_filter.2 ⟨hcl r hrT p hp, by
    have := lfm_act hc hw hsr hp
    simp [this, ← hre]⟩)
  rw [sum_const (kpN act G r)] at h1
  · rw [← h1]
    exact Nat.mul_div_cancel _ (kp_pos hw hsr)
  · intro t ht
    obtain ⟨htT, hte⟩ := List.mem_filter.1 ht
    have hte : lfm c act G t = r := by simpa using hte
    obtain ⟨q, hq, e⟩ := lfm_one hc hw hsr (hs t htT) (by rw [← hre, hte])
    rw [← e]
    exact kp_at hw hsr hq
end
end Go.Proofs.YtaddclaadbjnlaaGreat

namespace Go.Proofs.YtaddclaadbjnlaaGreat
set_option maxRecDepth 100000
set_option linter.unusedVariables false
set_option linter.unusedSimpArgs false
theorem lea_fold {n : Nat} {t : List (List Int)} : ∀ (ps : List (List Int)) (b : List (List Int)), b.length = n → ps.foldl (leaF n [t]) [b] = [ps.foldl (lstF n t) b] := by
  intro ps
  induction ps with
  | nil => intro b _; rfl
  | cons p ps ih =>
    intro b hb
    simp only [List.foldl_cons]
    have e : leaF n [t] [b] p = [lstF n t b p] := by
      unfold leaF lstF
      have : imgL n p [t] = [rnL n t p] := rfl
      rw [this, befS_one (by rw [rnL_len, hb])]
      by_cases h : cmpT (rnL n t p) b < 0
      · rw [decide_eq_true h, if_pos rfl, if_pos h]
      · rw [decide_eq_false h, if_neg h]; rfl
    rw [e]
    refine ih _ ?_
    unfold lstF
    split
    · exact rnL_len _ _ _
    · exact hb
theorem leaS_one {n : Nat} {t : List (List Int)} (h : t.length = n) : leaS n [t] = [leastL n t] := lea_fold _ _ h
theorem leastL_len {n : Nat} {t : List (List Int)} (h : t.length = n) : (leastL n t).length = n := by
  have : ∀ (ps : List (List Int)) (b : List (List Int)), b.length = n → (ps.foldl (lstF n t) b).length = n := by
    intro ps
    induction ps with
    | nil => intro b hb; exact hb
    | cons p ps ih =>
      intro b hb
      simp only [List.foldl_cons]
      refine ih _ ?_
      unfold lstF
      split
      · exact rnL_len _ _ _
      · exact hb
  exact this _ _ h
def rkLst (n : Nat) : List (List (List Int)) := (rowL n chkR).filter (lstB n)
def porI (t : List (List Int)) : Nat := (rkLst t.length).findIdx fun s => decide (s = leastL t.length t)
theorem porI_of {t : List (List Int)} {k : Nat} (hk : k < (rkLst t.length).length) (h1 : (rkLst t.length).getD k [] = leastL t.length t) (h2 : ∀ j, j < k → (rkLst t.length).getD j [] ≠ leastL t.length t) : porI t = k := by
  unfold porI
  rw [List.findIdx_eq hk]
  rw [List.getD_eq_getElem?_getD, List.getElem?_eq_getElem hk] at h1
  refine ⟨by simpa using h1, fun j hj => ?_⟩
  have := h2 j hj
  rw [List.getD_eq_getElem?_getD, List.getElem?_eq_getElem (by omega)] at this
  simpa using this
theorem por_some {t : List (List Int)} (h : isRk t = true) (h4 : t.length ≤ 4) : ∃ k, k < (rkLst t.length).length ∧ (rkLst t.length).getD k [] = leastL t.length t := by
  obtain ⟨k, hk, e⟩ := List.getElem_of_mem (least_in h h4)
  refine ⟨k, hk, ?_⟩
  unfold rkLst
  rw [List.getD_eq_getElem?_getD, List.getElem?_eq_getElem hk]; exact e
def porF (t : List (List Int)) : Int × Int := if isRk t = true then (if t.length ≤ 4 then ((porI t : Nat), 0) else (0, 3)) else (0, 1)
end Go.Proofs.YtaddclaadbjnlaaGreat

namespace Go.Proofs.YtaddclaadbjnlaaGreat
set_option maxRecDepth 100000
set_option linter.unusedVariables false
set_option linter.unusedSimpArgs false
theorem rnL_th {n : Nat} {t : List (List Int)} {p q : List Int} (hp : IsP n p) (hq : IsP n q) (hs : Sq n t) : rnL n (rnL n t p) q = rnL n t (thL p q) := by
  have s1 := rnL_sq hp hs
  have s2 := rnL_sq hq s1
  have s3 := rnL_sq (thL_isP hp hq) hs
  obtain ⟨f, g, hp⟩ := isP_of hp
  obtain ⟨f', g', hq⟩ := isP_of hq
  refine sq_ext s2 s3 fun x y hx hy => ?_
  rw [rnL_tv hq s1 hx hy, rnL_tv hp hs (hq.2.1 x hx).2.1 (hq.2.1 y hy).2.1, rnL_tv (thL_pf hp hq) hs hx hy]
theorem rnL_unit {n : Nat} {t : List (List Int)} (hs : Sq n t) : rnL n t (unitL n) = t := by
  refine sq_ext (rnL_sq (unit_isP n) hs) hs fun x y hx hy => ?_
  rw [rnL_tv (unit_pf n) hs hx hy]; rfl
theorem rnL_back {n : Nat} {t : List (List Int)} {p : List Int} (hp : IsP n p) (hs : Sq n t) : rnL n (rnL n t p) (backF p) = t := by
  rw [rnL_th hp (back_isP hp) hs]
  obtain ⟨f, g, hp⟩ := isP_of hp
  have : thL p (backF p) = unitL n := pf_ext (thL_pf hp (backF_pf hp)) (unit_pf n) fun i hi => (hp.2.1 i hi).2.2.2
  rw [this, rnL_unit hs]
theorem thL_inj {n : Nat} {p p' q : List Int} (hp : IsP n p) (hp' : IsP n p') (hq : IsP n q) (e : thL p q = thL p' q) : p = p' := by
  obtain ⟨f, g, hp⟩ := isP_of hp
  obtain ⟨f', g', hp'⟩ := isP_of hp'
  obtain ⟨h, k, hq⟩ := isP_of hq
  refine pf_ext hp hp' fun i hi => ?_
  have a := (thL_pf hp hq).2.2 i hi
  have b := (thL_pf hp' hq).2.2 i hi
  rw [e, b] at a
  have a : h (f' i) = h (f i) := Int.ofNat.inj a
  have := congrArg k a
  rw [(hq.2.1 _ (hp'.2.1 i hi).1).2.2.2, (hq.2.1 _ (hp.2.1 i hi).1).2.2.2] at this
  exact this.symm
/-! the list of all permutations is the group -/
theorem prm_get {n : Nat} (h1 : 1 ≤ n) (h4 : n ≤ 4) {p : List Int} (h : p ∈ prmL n) : IsP n p := by
  obtain ⟨i, hi, e⟩ := List.getElem_of_mem h
  have := prm_isP h1 h4 i hi
  rwa [List.getD_eq_getElem?_getD, List.getElem?_eq_getElem hi, Option.getD_some, e] at this
theorem prm_put {n : Nat} (h4 : n ≤ 4) {p : List Int} (h : IsP n p) : p ∈ prmL n := prm_of h4 h.len h.mem (isP_perm h)
theorem prm_nd : ∀ n : Fin 5, (prmL n.1).Nodup := by decide +kernel
theorem rnL_wrk {n : Nat} (h1 : 1 ≤ n) (h4 : n ≤ 4) : Wrk (prmL n) (fun p t => rnL n t p) thL (Sq n) where
  nd := prm_nd ⟨n, by omega⟩
  st := fun t ht p hp => rnL_sq (prm_get h1 h4 hp) ht
  cm := fun p q hp hq => prm_put h4 (thL_isP (prm_get h1 h4 hp) (prm_get h1 h4 hq))
  ac := fun p q hp hq t ht => rnL_th (prm_get h1 h4 hp) (prm_get h1 h4 hq) ht
  un := ⟨unitL n, prm_put h4 (unit_isP n), fun t ht => rnL_unit ht⟩
  bk := fun p hp => ⟨backF p, prm_put h4 (back_isP (prm_get h1 h4 hp)), fun t ht => rnL_back (prm_get h1 h4 hp) ht⟩
  ij := fun p p' q hp hp' hq e => thL_inj (prm_get h1 h4 hp) (prm_get h1 h4 hp') (prm_get h1 h4 hq) e
theorem least_lfm (n : Nat) (t : List (List Int)) : leastL n t = lfm cmpT (fun p t => rnL n t p) (prmL n) t := by
  unfold leastL lfm minL
  rw [List.foldl_map]; rfl
end Go.Proofs.YtaddclaadbjnlaaGreat

namespace Go.Proofs.YtaddclaadbjnlaaGreat
set_option maxRecDepth 100000
set_option linter.unusedVariables false
set_option linter.unusedSimpArgs false
/-! ### the least ones, told by a list -/
def gfN (n : Nat) (t : List (List Int)) : Nat := (prmL n).length / kpN (fun p t => rnL n t p) (prmL n) t
theorem rowL_nd {n : Nat} (h4 : n ≤ 4) (fits : List (List Int) → Bool) : (rowL n fits).Nodup := by
  have h := rowG_sorted (ps := prmL n) (fits := fits) (prm_sorted ⟨n, by omega⟩) n []
  refine List.Pairwise.imp ?_ h
  intro a b hab e
  rw [e, cmpT_cmp.refl] at hab; omega
theorem row_orbits {n : Nat} (h1 : 1 ≤ n) (h4 : n ≤ 4) {fits : List (List Int) → Bool} (hcl : ∀ t, t ∈ rowL n fits → ∀ p, IsP n p → rnL n t p ∈ rowL n fits) : (((rowL n fits).filter (lstB n)).map (gfN n)).sum = (rowL n fits).length := by
  have h := orbits cmpT_cmp (rnL_wrk h1 h4) (rowL_nd h4 fits) (fun t ht => by
    obtain ⟨i, hi, e⟩ := List.getElem_of_mem ht
    have := (rowL_rwsP h1 h4 (fits := fits) hi).sq
    rwa [List.getD_eq_getElem?_getD, List.getElem?_eq_getElem hi, Option.getD_some, e] at this) (fun t ht p hp => hcl t ht p (prm_get h1 h4 hp))
  rw [← h]
  have : lstB n = fun t => decide (t = lfm cmpT (fun p t => rnL n t p) (prmL n) t) := by
    funext t; unfold lstB; rw [least_lfm]
  rw [this]; rfl
end Go.Proofs.YtaddclaadbjnlaaGreat

namespace Go.Proofs.YtaddclaadbjnlaaGreat
set_option maxRecDepth 100000
set_option linter.unusedVariables false
set_option linter.unusedSimpArgs false
theorem isoL_rn {n : Nat} {t u : List (List Int)} {p : List Int} (hs : Sq n t) (hu : Sq n u) : IsoL n [t] [u] p ↔ IsP n p ∧ rnL n t p = u := by
  constructor
  · rintro ⟨hl, q, hq, hpq⟩
    have hperm : permOk p = true := by
      refine permTo_ok ⟨fun i hi => ?_, fun i j hi hj e => ?_⟩
      · have := hpq i (by omega)
        have h2 := hq.lt i (by omega)
        unfold Mp at this; rw [this]; omega
      · have a := hpq i (by omega)
        have b := hpq j (by omega)
        unfold Mp at a b
        exact hq.inj i j (by omega) (by omega) (by omega)
    have hP := permOk_isP hl hperm
    refine ⟨hP, ?_⟩
    obtain ⟨f, g, hpf⟩ := hP
    have hfg : ∀ a, a < n → f a = q a := fun a ha => by
      have h1 := hpf.2.2 a ha
      have h2 := hpq a ha
      unfold Mp at h2; omega
    refine sq_ext (rnL_sq ⟨f, g, hpf⟩ hs) hu fun x y hx hy => ?_
    rw [rnL_tv hpf hs hx hy]
    have gx := hpf.2.1 x hx
    have gy := hpf.2.1 y hy
    have h1 := hq.hom 0 (by simp) (g x) (g y) gx.2.1 gy.2.1
    have e1 : q (g x) = x := by rw [← hfg _ gx.2.1]; exact gx.2.2.1
    have e2 : q (g y) = y := by rw [← hfg _ gy.2.1]; exact gy.2.2.1
    rw [e1, e2] at h1
    have h2 : q (tv t (g x) (g y)) = tv u x y := h1
    rw [hfg _ (hs.lt gx.2.1 gy.2.1), h2]
  · rintro ⟨⟨f, g, hpf⟩, rfl⟩
    refine ⟨hpf.1, f, ⟨fun a ha => (hpf.2.1 a ha).1, fun a b ha hb e => ?_, fun k hk a b ha hb => ?_⟩, fun a ha => hpf.2.2 a ha⟩
    · have h1 := (hpf.2.1 a ha).2.2.2
      have h2 := (hpf.2.1 b hb).2.2.2
      rw [← h1, ← h2, e]
    · obtain rfl : k = 0 := by simp at hk; exact hk
      show f (tv t a b) = tv (rnL n t p) (f a) (f b)
      rw [rnL_tv hpf hs (hpf.2.1 a ha).1 (hpf.2.1 b hb).1, (hpf.2.1 a ha).2.2.2, (hpf.2.1 b hb).2.2.2]
theorem isP_in {n : Nat} (h4 : n ≤ 4) {p : List Int} (h : IsP n p) : p ∈ prmL n := by
  have hl := h.len
  obtain ⟨f, g, hpf⟩ := h
  refine prm_of h4 hl (fun x hx => ?_) (isP_perm ⟨f, g, hpf⟩)
  obtain ⟨i, hi, rfl⟩ := List.getElem_of_mem hx
  have h1 := hpf.2.2 i (by omega)
  have h2 := (hpf.2.1 i (by omega)).1
  rw [List.getD_eq_getElem?_getD, List.getElem?_eq_getElem hi, Option.getD_some] at h1
  rw [h1]; omega
theorem ya_len {n : Nat} (h1 : 1 ≤ n) (h4 : n ≤ 4) {t : List (List Int)} (hs : Sq n t) {Y : List (List Int)} (hY : YA n [t] [t] Y) : Y.length = kpN (fun p t => rnL n t p) (prmL n) t := by
  unfold kpN
  refine ((List.perm_ext_iff_of_nodup hY.1 ((prm_nd ⟨n, by omega⟩).filter _)).2 fun l => ?_).length_eq
  rw [hY.2 l, isoL_rn (p := l) hs hs, List.mem_filter]
  constructor
  · rintro ⟨q1, q2⟩; exact ⟨isP_in h4 q1, by simpa using q2⟩
  · rintro ⟨q1, q2⟩
    refine ⟨?_, by simpa using q2⟩
    obtain ⟨i, hi, e⟩ := List.getElem_of_mem q1
    have := prm_isP h1 h4 i hi
    rw [List.getD_eq_getElem?_getD, List.getElem?_eq_getElem hi, Option.getD_some, e] at this
    exact this
end Go.Proofs.YtaddclaadbjnlaaGreat

namespace Go.Proofs.YtaddclaadbjnlaaGreat
set_option maxRecDepth 100000
set_option linter.unusedVariables false
theorem allN_mkK {n : Nat} {P : Nat → Bool} (h : ∀ k, k < n → P k = true) : allN n P = true := List.all_eq_true.2 fun k hk => h k (List.mem_range.1 hk)
theorem rowOk_ofK {n : Nat} {l : List Int} (hl : l.length = n) (h : ∀ i, i < n → 0 ≤ l.getD i 0 ∧ l.getD i 0 < n) : rowOk (n : Int) (n : Int) l = true := by
  unfold rowOk
  rw [Bool.and_eq_true]
  refine ⟨decide_eq_true (by omega), List.all_eq_true.2 fun x hx => ?_⟩
  obtain ⟨i, hi, rfl⟩ := List.getElem_of_mem hx
  have := h i (by omega)
  rw [List.getD_eq_getElem?_getD, List.getElem?_eq_getElem hi, Option.getD_some] at this
  unfold rngB
  simp; omega
theorem isTab_ofK {n : Nat} {t : List (List Int)} (h1 : 1 ≤ n) (h12 : n ≤ 12) (h : Sq n t) : isTab t = true := by
  unfold isTab
  rw [Bool.and_eq_true, h.len]
  refine ⟨by unfold rngB; simp; omega, List.all_eq_true.2 fun r hr => ?_⟩
  obtain ⟨i, hi, rfl⟩ := List.getElem_of_mem hr
  have hin : i < n := by rw [h.len] at hi; exact hi
  have e : t.getD i [] = t[i] := by simp [List.getD_eq_getElem?_getD, List.getElem?_eq_getElem hi]
  have hl := h.row hin
  rw [e] at hl
  refine rowOk_ofK hl fun y hy => ?_
  have := h.val hin hy
  have h2 := h.lt hin hy
  rw [e] at this
  omega
theorem rk_rn {n : Nat} {t : List (List Int)} {p : List Int} (h12 : n ≤ 12) (h : isRk t = true) (hl : t.length = n) (hp : IsP n p) : isRk (rnL n t p) = true := by
  have h0 := h
  unfold isRk at h
  rw [Bool.and_eq_true, Bool.and_eq_true] at h
  obtain ⟨hT, hP, hR⟩ := h
  obtain ⟨h1, _, hs⟩ := isTab_sq hT
  rw [hl] at hs h1 hR
  have hs2 := rnL_sq hp hs
  have hrow : ∀ i, i < n → IsP n (t.getD i []) := fun i hi => permOk_isP (hs.row hi) (List.all_eq_true.1 hP _ (by
    rw [List.getD_eq_getElem?_getD, List.getElem?_eq_getElem (by omega)]; exact List.getElem_mem (by omega)))
  obtain ⟨f, g, hp⟩ := hp
  have hrow2 : ∀ x, x < n → IsP n ((rnL n t p).getD x []) := fun x hx => by
    obtain ⟨F, G, hF⟩ := hrow (g x) (hp.2.1 x hx).2.1
    refine ⟨fun y => f (F (g y)), fun y => f (G (g y)), hs2.row hx, fun y hy => ?_, fun y hy => ?_⟩
    · have a1 := hp.2.1 y hy
      have a2 := hF.2.1 (g y) a1.2.1
      have a3 := hp.2.1 (F (g y)) a2.1
      have a4 := hp.2.1 (G (g y)) a2.2.1
      refine ⟨a3.1, a4.1, ?_, ?_⟩
      · show f (F (g (f (G (g y))))) = y
        rw [a4.2.2.2, a2.2.2.1, a1.2.2.1]
      · show f (G (g (f (F (g y))))) = y
        rw [a3.2.2.2, a2.2.2.2, a1.2.2.1]
    · rw [hs2.val hx hy, rnL_tv hp hs hx hy]
      have a1 := (hp.2.1 y hy).2.1
      have := hF.2.2 (g y) a1
      rw [hs.val (hp.2.1 x hx).2.1 a1] at this
      have : tv t (g x) (g y) = F (g y) := Int.ofNat.inj this
      rw [this]
  unfold isRk
  rw [Bool.and_eq_true, Bool.and_eq_true]
  refine ⟨isTab_ofK h1 h12 hs2, List.all_eq_true.2 fun r hr => ?_, ?_⟩
  · obtain ⟨i, hi, rfl⟩ := List.getElem_of_mem hr
    have := hrow2 i (by rw [rnL_len] at hi; omega)
    rw [List.getD_eq_getElem?_getD, List.getElem?_eq_getElem hi, Option.getD_some] at this
    exact isP_perm this
  · rw [rnL_len]
    refine allN_mkK fun x hx => allN_mkK fun y hy => allN_mkK fun z hz => ?_
    have kx := hp.2.1 x hx
    have ky := hp.2.1 y hy
    have kz := hp.2.1 z hz
    have hr := of_decide_eq_true (allN_get (allN_get (allN_get hR kx.2.1) ky.2.1) kz.2.1)
    have l1 := hs.lt ky.2.1 kz.2.1
    have l2 := hs.lt kx.2.1 ky.2.1
    have l3 := hs.lt kx.2.1 kz.2.1
    have c1 := hp.2.1 _ l1
    have c2 := hp.2.1 _ l2
    have c3 := hp.2.1 _ l3
    unfold rkAt
    refine decide_eq_true ?_
    rw [rnL_tv hp hs hy hz, rnL_tv hp hs hx hy, rnL_tv hp hs hx hz, rnL_tv hp hs hx c1.1, rnL_tv hp hs c2.1 c3.1, c1.2.2.2, c2.2.2.2, c3.2.2.2, hr]
end Go.Proofs.YtaddclaadbjnlaaGreat

namespace Go.Proofs.YtaddclaadbjnlaaGreat
set_option maxRecDepth 100000
set_option linter.unusedVariables false
set_option linter.unusedSimpArgs false
open Go.RowKit
def arkF (x : Int) : List (List (List Int)) × Int := if 1 ≤ x ∧ x ≤ 4 then ((rowL x.toNat chkR).filter (lstB x.toNat), 0) else ([], 2)
theorem ark_eq {n : Nat} (h1 : 1 ≤ n) (h4 : n ≤ 4) : srtL n (fun t => !false || qndOk n t) (rckN n) = (rowL n chkR).filter (lstB n) := by
  have hr : rckN n = rowL n chkR := (rck_eq ⟨n, by omega⟩ h1).symm
  rw [hr, srtL_filter rowL_len (rowG_sorted (prm_sorted ⟨n, by omega⟩) _ _)]
  exact List.filter_congr fun t _ => by simp
set_option maxHeartbeats 4000000 in
theorem spec_Ark_l (x : Int) (w : World) (hx : I64 x) :
    Calls Tryz.prog 8 #[.int .i64 x] w (RetLRk w (arkF x).1 (arkF x).2) := by
  have hin := fun w => l01In_any x 1 4 w
  by_cases h : 1 ≤ x ∧ x ≤ 4
  · obtain ⟨n, rfl⟩ : ∃ n : Nat, x = n := ⟨x.toNat, by omega⟩
    have h1 : 1 ≤ n := by omega
    have h4 : n ≤ 4 := by omega
    obtain ⟨K, HK⟩ : ∃ K, Hid (srtL n (fun t => !false || qndOk n t) (rckN n) = K) := ⟨_, rfl⟩
    have hq : arkF n = (K, 0) := by unfold arkF; rw [if_pos h, Int.toNat_natCast, ← ark_eq h1 h4, HK.out]
    rw [hq]
    have hd : (decide ((1 : Int) ≤ n) && decide ((n : Int) ≤ 4)) = true := by simp; omega
    rw [hd] at hin
    have HIN := Lib.hid hin
    clear hin hd h hq
    go_enter Tryz.func8, Tryz.ntmps8
    go_wp2_with fail
    refine (HIN.out _).mono ?_
    rintro e w1 ⟨rfl, rfl⟩
    go_wp2_with fail
    refine (l19List_any n false _ h1 h4).mono ?_
    rintro e w2 ⟨a, k, c, us, rfl, ho, hb⟩
    rw [HK.out] at ho
    go_wp2
    go_ret2
    exact ⟨a, k, c, us, rfl, ho, hb⟩
  · have hq : arkF x = ([], 2) := by unfold arkF; rw [if_neg h]
    rw [hq]
    have hd : (decide ((1 : Int) ≤ x) && decide (x ≤ 4)) = false := by simp; omega
    rw [hd] at hin
    have HIN := Lib.hid hin
    clear hin hd hq
    go_enter Tryz.func8, Tryz.ntmps8
    go_wp2_with fail
    refine (HIN.out _).mono ?_
    rintro e w1 ⟨rfl, rfl⟩
    go_wp2
    go_ret2
    exact ⟨none, 0, 0, [], rfl, OwnRk.nil _ _, Below.refl _ _⟩
set_option maxHeartbeats 4000000 in
theorem impl_Ark_l (x : Int) (w : World) (hx : I64 x) :
    Calls Tryz.prog 7 #[.int .i64 x] w (RetLRk w (arkF x).1 (arkF x).2) := by
  have hin := fun w => within_any x 1 4 w
  by_cases h : 1 ≤ x ∧ x ≤ 4
  · obtain ⟨n, rfl⟩ : ∃ n : Nat, x = n := ⟨x.toNat, by omega⟩
    have h1 : 1 ≤ n := by omega
    have h4 : n ≤ 4 := by omega
    obtain ⟨K, HK⟩ : ∃ K, Hid ((rowL n chkR).filter (lstB n) = K) := ⟨_, rfl⟩
    have hq : arkF n = (K, 0) := by unfold arkF; rw [if_pos h, Int.toNat_natCast, HK.out]
    rw [hq]
    have hd : (decide ((1 : Int) ≤ n) && decide ((n : Int) ≤ 4)) = true := by simp; omega
    rw [hd] at hin
    have HIN := Lib.hid hin
    clear hin hd h hq
    go_enter Tryz.func7, Tryz.ntmps7
    go_wp2_with fail
    refine (HIN.out _).mono ?_
    rintro e w1 ⟨rfl, rfl⟩
    go_wp2_with fail
    refine (allRacks_any n _ h1 h4).mono ?_
    rintro e w2 ⟨a, k, c, us, rfl, ho, hb⟩
    rw [HK.out] at ho
    go_wp2
    go_ret2
    exact ⟨a, k, c, us, rfl, ho, hb⟩
  · have hq : arkF x = ([], 2) := by unfold arkF; rw [if_neg h]
    rw [hq]
    have hd : (decide ((1 : Int) ≤ x) && decide (x ≤ 4)) = false := by simp; omega
    rw [hd] at hin
    have HIN := Lib.hid hin
    clear hin hd hq
    go_enter Tryz.func7, Tryz.ntmps7
    go_wp2_with fail
    refine (HIN.out _).mono ?_
    rintro e w1 ⟨rfl, rfl⟩
    go_wp2
    go_ret2
    exact ⟨none, 0, 0, [], rfl, OwnRk.nil _ _, Below.refl _ _⟩
end Go.Proofs.YtaddclaadbjnlaaGreat
