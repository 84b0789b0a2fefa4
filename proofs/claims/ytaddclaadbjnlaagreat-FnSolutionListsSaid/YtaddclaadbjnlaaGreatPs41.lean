/-
  Walks and plain laws of this seat, some texts in one.
  No condition but bounds on lengths.
-/
import Derived.Test.YtaddclaadbjnlaaGreatPs40
import Derived.Test.YtaddclaadbjnlaaGreatPs34
import Derived.Test.YtaddclaadbjnlaaGreatPs8
import Derived.Test.YtaddclaadbjnlaaGreatPs28
import Derived.Test.YtaddclaadbjnlaaGreatPs18
import Derived.Test.YtaddclaadbjnlaaGreatPs14
import Derived.Test.YtaddclaadbjnlaaGreatPs36
import Derived.Test.YtaddclaadbjnlaaGreatPs4
import Derived.Test.YtaddclaadbjnlaaGreatPs7
namespace Go.Proofs.YtaddclaadbjnlaaGreat
set_option maxRecDepth 100000
set_option linter.unusedVariables false
set_option linter.unusedSimpArgs false
theorem rnL_th {n : Nat} {t : List (List Int)} {p q : List Int} (hp : IsP n p) (hq : IsP n q) (hs : Sq n t) : rnL n (rnL n t p) q = rnL n t (thL p q) := by
  have s1 := rnL_sq hp hs
  have s2 := rnL_sq hq s1
  have s3 := rnL_sq (thL_isP hp hq) hs
  obtain ⟨f, g, hp⟩ := isP_of hp
  obtain ⟨f', g', hq⟩ := isP_of hq
  refine sq_ext s2 s3 fun x y hx hy => ?_
  rw [rnL_tv hq s1 hx hy, rnL_tv hp hs (hq.2.1 x hx).2.1 (hq.2.1 y hy).2.1, rnL_tv (thL_pf hp hq) hs hx hy]
theorem rnL_unit {n : Nat} {t : List (List Int)} (hs : Sq n t) : rnL n t (unitL n) = t := by
  refine sq_ext (rnL_sq (unit_isP n) hs) hs fun x y hx hy => ?_
  rw [rnL_tv (unit_pf n) hs hx hy]; rfl
theorem rnL_back {n : Nat} {t : List (List Int)} {p : List Int} (hp : IsP n p) (hs : Sq n t) : rnL n (rnL n t p) (backF p) = t := by
  rw [rnL_th hp (back_isP hp) hs]
  obtain ⟨f, g, hp⟩ := isP_of hp
  have : thL p (backF p) = unitL n := pf_ext (thL_pf hp (backF_pf hp)) (unit_pf n) fun i hi => (hp.2.1 i hi).2.2.2
  rw [this, rnL_unit hs]
theorem thL_inj {n : Nat} {p p' q : List Int} (hp : IsP n p) (hp' : IsP n p') (hq : IsP n q) (e : thL p q = thL p' q) : p = p' := by
  obtain ⟨f, g, hp⟩ := isP_of hp
  obtain ⟨f', g', hp'⟩ := isP_of hp'
  obtain ⟨h, k, hq⟩ := isP_of hq
  refine pf_ext hp hp' fun i hi => ?_
  have a := (thL_pf hp hq).2.2 i hi
  have b := (thL_pf hp' hq).2.2 i hi
  rw [e, b] at a
  have a : h (f' i) = h (f i) := Int.ofNat.inj a
  have := congrArg k a
  rw [(hq.2.1 _ (hp'.2.1 i hi).1).2.2.2, (hq.2.1 _ (hp.2.1 i hi).1).2.2.2] at this
  exact this.symm
/-! the list of all permutations is the group -/
theorem prm_get {n : Nat} (h1 : 1 ≤ n) (h4 : n ≤ 4) {p : List Int} (h : p ∈ prmL n) : IsP n p := by
  obtain ⟨i, hi, e⟩ := List.getElem_of_mem h
  have := prm_isP h1 h4 i hi
  rwa [List.getD_eq_getElem?_getD, List.getElem?_eq_getElem hi, Option.getD_some, e] at this
theorem prm_put {n : Nat} (h4 : n ≤ 4) {p : List Int} (h : IsP n p) : p ∈ prmL n := prm_of h4 h.len h.mem (isP_perm h)
theorem prm_nd : ∀ n : Fin 5, (prmL n.1).Nodup := by decide +kernel
theorem rnL_wrk {n : Nat} (h1 : 1 ≤ n) (h4 : n ≤ 4) : Wrk (prmL n) (fun p t => rnL n t p) thL (Sq n) where
  nd := prm_nd ⟨n, by omega⟩
  st := fun t ht p hp => rnL_sq (prm_get h1 h4 hp) ht
  cm := fun p q hp hq => prm_put h4 (thL_isP (prm_get h1 h4 hp) (prm_get h1 h4 hq))
  ac := fun p q hp hq t ht => rnL_th (prm_get h1 h4 hp) (prm_get h1 h4 hq) ht
  un := ⟨unitL n, prm_put h4 (unit_isP n), fun t ht => rnL_unit ht⟩
  bk := fun p hp => ⟨backF p, prm_put h4 (back_isP (prm_get h1 h4 hp)), fun t ht => rnL_back (prm_get h1 h4 hp) ht⟩
  ij := fun p p' q hp hp' hq e => thL_inj (prm_get h1 h4 hp) (prm_get h1 h4 hp') (prm_get h1 h4 hq) e
theorem least_lfm (n : Nat) (t : List (List Int)) : leastL n t = lfm cmpT (fun p t => rnL n t p) (prmL n) t := by
  unfold leastL lfm minL
  rw [List.foldl_map]; rfl
def cntG (ps : List (List Int)) (fits : List (List Int) → Bool) : Nat → List (List Int) → Nat
  | 0, _ => 1
  | m + 1, o => (ps.map fun p => if fits (o ++ [p]) then cntG ps fits m (o ++ [p]) else 0).sum
theorem rowG_cnt (ps : List (List Int)) (fits : List (List Int) → Bool) : ∀ (m : Nat) (o : List (List Int)), (rowG ps fits m o).length = cntG ps fits m o := by
  intro m
  induction m with
  | zero => intro o; rfl
  | succ m ih =>
    intro o
    show (ps.flatMap fun p => if fits (o ++ [p]) then rowG ps fits m (o ++ [p]) else []).length = (ps.map fun p => if fits (o ++ [p]) then cntG ps fits m (o ++ [p]) else 0).sum
    rw [List.length_flatMap]
    congr 1
    refine List.map_congr_left fun p _ => ?_
    by_cases h : fits (o ++ [p]) = true
    · rw [if_pos h, if_pos h]; exact ih _
    · rw [if_neg h, if_neg h]; rfl
def cntQ (fits : List (List Int) → Bool) (i : Nat) : Nat := ((((prmL 4).drop (6 * i)).take 6).map fun p => if fits ([] ++ [p]) then cntG (prmL 4) fits 3 ([] ++ [p]) else 0).sum
theorem four_parts {α : Type} (f : α → Nat) {l : List α} (h : l.length = 24) : (l.map f).sum = (((l.drop 0).take 6).map f).sum + (((l.drop 6).take 6).map f).sum + (((l.drop 12).take 6).map f).sum + (((l.drop 18).take 6).map f).sum := by
  have e3 : (l.drop 18).take 6 = l.drop 18 := List.take_of_length_le (by simp; omega)
  have e2 : l.drop 12 = (l.drop 12).take 6 ++ l.drop 18 := by
    have := (List.take_append_drop 6 (l.drop 12)).symm; rwa [List.drop_drop] at this
  have e1 : l.drop 6 = (l.drop 6).take 6 ++ l.drop 12 := by
    have := (List.take_append_drop 6 (l.drop 6)).symm; rwa [List.drop_drop] at this
  have e0 : l = (l.drop 0).take 6 ++ l.drop 6 := by
    have := (List.take_append_drop 6 l).symm; simp
  have hs : ∀ a b : List α, ((a ++ b).map f).sum = (a.map f).sum + (b.map f).sum := fun a b => by rw [List.map_append, List.sum_append]
  conv => lhs; rw [e0]
  rw [hs]
  conv => lhs; rw [e1, hs, e2, hs]
  rw [e3]; omega
theorem prm4_len : (prmL 4).length = 24 := by decide +kernel
theorem cnt_parts (fits : List (List Int) → Bool) : (rowL 4 fits).length = cntQ fits 0 + cntQ fits 1 + cntQ fits 2 + cntQ fits 3 := by
  unfold rowL
  rw [rowG_cnt]
  exact four_parts _ prm4_len
/-! ### the least ones, told by a list -/
theorem sub_split {β : Type} : ∀ {r l : List β}, r.Nodup → (∀ x, x ∈ r → x ∈ l) → ∃ s, l.Perm (r ++ s) := by
  intro r
  induction r with
  | nil => intro l _ _; exact ⟨l, by simp⟩
  | cons a r ih =>
    intro l hn hs
    rw [List.nodup_cons] at hn
    obtain ⟨u, v, rfl⟩ := List.append_of_mem (hs a (by simp))
    obtain ⟨s, h⟩ := ih (l := u ++ v) hn.2 (fun x hx => by
      have := hs x (by simp [hx])
      rw [List.mem_append, List.mem_cons] at this
      rw [List.mem_append]
      rcases this with h | h | h
      · exact .inl h
      · exact absurd (h ▸ hx) hn.1
      · exact .inr h)
    refine ⟨s, List.perm_middle.trans ?_⟩
    exact List.Perm.cons a h
theorem sum_ge {β : Type} (f : β → Nat) : ∀ {l : List β}, (∀ x, x ∈ l → 1 ≤ f x) → l.length ≤ (l.map f).sum := by
  intro l
  induction l with
  | nil => intro _; simp
  | cons a l ih =>
    intro h
    have h1 := ih fun x hx => h x (by simp [hx])
    have h2 := h a (by simp)
    rw [List.map_cons, List.sum_cons, List.length_cons]; omega
theorem cert_len {β : Type} (f : β → Nat) {r l : List β} (hr : r.Nodup) (hs : ∀ x, x ∈ r → x ∈ l) (h1 : ∀ x, x ∈ l → 1 ≤ f x) (e : (r.map f).sum = (l.map f).sum) : l.length = r.length := by
  obtain ⟨s, hp⟩ := sub_split hr hs
  have h2 := (hp.map f).sum_nat
  rw [List.map_append, List.sum_append] at h2
  have h3 := sum_ge f (l := s) fun x hx => h1 x (hp.mem_iff.2 (List.mem_append_right _ hx))
  have h4 := hp.length_eq
  rw [List.length_append] at h4
  omega
def gfN (n : Nat) (t : List (List Int)) : Nat := (prmL n).length / kpN (fun p t => rnL n t p) (prmL n) t
theorem gfN_pos {n : Nat} (h1 : 1 ≤ n) (h4 : n ≤ 4) {t : List (List Int)} (h : Sq n t) : 1 ≤ gfN n t := by
  have hk := kp_pos (rnL_wrk h1 h4) h
  have : kpN (fun p t => rnL n t p) (prmL n) t ≤ (prmL n).length := List.length_filter_le _ _
  exact (Nat.one_le_div_iff hk).2 this
def certB (n : Nat) (fits : List (List Int) → Bool) (r : List (List (List Int))) : Bool :=
  r.all fun t => decide (t.length = n) && (t.all fun p => (prmL n).contains p) && fits t && (prmL n).all fun p => !decide (cmpT (rnL n t p) t < 0)
theorem cert_in {n : Nat} (h1 : 1 ≤ n) {fits : List (List Int) → Bool} (hm : ∀ o r, fits (o ++ r) = true → fits o = true) {r : List (List (List Int))} (h : certB n fits r = true) : ∀ t, t ∈ r → t ∈ (rowL n fits).filter (lstB n) := by
  intro t ht
  have q := List.all_eq_true.1 h t ht
  rw [Bool.and_eq_true, Bool.and_eq_true, Bool.and_eq_true] at q
  obtain ⟨⟨⟨q1, q2⟩, q3⟩, q4⟩ := q
  refine List.mem_filter.2 ⟨?_, ?_⟩
  · rw [rowL_filter h1 hm]
    refine List.mem_filter.2 ⟨?_, q3⟩
    have := allT_of (ps := prmL n) n [] t (of_decide_eq_true q1) (fun p hp => by simpa using List.all_eq_true.1 q2 p hp)
    simpa using this
  · unfold lstB
    refine decide_eq_true (Eq.symm (lst_keep _ fun p hp hc => ?_))
    have := List.all_eq_true.1 q4 p hp
    simp [hc] at this
theorem rowL_nd {n : Nat} (h4 : n ≤ 4) (fits : List (List Int) → Bool) : (rowL n fits).Nodup := by
  have h := rowG_sorted (ps := prmL n) (fits := fits) (prm_sorted ⟨n, by omega⟩) n []
  refine List.Pairwise.imp ?_ h
  intro a b hab e
  rw [e, cmpT_cmp.refl] at hab; omega
theorem row_orbits {n : Nat} (h1 : 1 ≤ n) (h4 : n ≤ 4) {fits : List (List Int) → Bool} (hcl : ∀ t, t ∈ rowL n fits → ∀ p, IsP n p → rnL n t p ∈ rowL n fits) : (((rowL n fits).filter (lstB n)).map (gfN n)).sum = (rowL n fits).length := by
  have h := orbits cmpT_cmp (rnL_wrk h1 h4) (rowL_nd h4 fits) (fun t ht => by
    obtain ⟨i, hi, e⟩ := List.getElem_of_mem ht
    have := (rowL_rwsP h1 h4 (fits := fits) hi).sq
    rwa [List.getD_eq_getElem?_getD, List.getElem?_eq_getElem hi, Option.getD_some, e] at this) (fun t ht p hp => hcl t ht p (prm_get h1 h4 hp))
  rw [← h]
  have : lstB n = fun t => decide (t = lfm cmpT (fun p t => rnL n t p) (prmL n) t) := by
    funext t; unfold lstB; rw [least_lfm]
  rw [this]; rfl
theorem rowL_sqm {n : Nat} (h1 : 1 ≤ n) (h4 : n ≤ 4) {fits : List (List Int) → Bool} {t : List (List Int)} (ht : t ∈ rowL n fits) : RwsP n t := by
  obtain ⟨i, hi, e⟩ := List.getElem_of_mem ht
  have := rowL_rwsP h1 h4 (fits := fits) hi
  rwa [List.getD_eq_getElem?_getD, List.getElem?_eq_getElem hi, Option.getD_some, e] at this
theorem cert_all {n : Nat} (h1 : 1 ≤ n) (h4 : n ≤ 4) {fits : List (List Int) → Bool} (hm : ∀ o r, fits (o ++ r) = true → fits o = true) (hcl : ∀ t, t ∈ rowL n fits → ∀ p, IsP n p → rnL n t p ∈ rowL n fits) {r : List (List (List Int))} (hn : r.Nodup) (h : certB n fits r = true) (e : (r.map (gfN n)).sum = (rowL n fits).length) :
    ((rowL n fits).filter (lstB n)).length = r.length :=
  cert_len (gfN n) hn (cert_in h1 hm h) (fun t ht => gfN_pos h1 h4 (rowL_sqm h1 h4 (List.mem_filter.1 ht).1).sq) (by rw [e, row_orbits h1 h4 hcl])
theorem isoL_rn {n : Nat} {t u : List (List Int)} {p : List Int} (hs : Sq n t) (hu : Sq n u) : IsoL n [t] [u] p ↔ IsP n p ∧ rnL n t p = u := by
  constructor
  · rintro ⟨hl, q, hq, hpq⟩
    have hperm : permOk p = true := by
      refine permTo_ok ⟨fun i hi => ?_, fun i j hi hj e => ?_⟩
      · have := hpq i (by omega)
        have h2 := hq.lt i (by omega)
        unfold Mp at this; rw [this]; omega
      · have a := hpq i (by omega)
        have b := hpq j (by omega)
        unfold Mp at a b
        exact hq.inj i j (by omega) (by omega) (by omega)
    have hP := permOk_isP hl hperm
    refine ⟨hP, ?_⟩
    obtain ⟨f, g, hpf⟩ := hP
    have hfg : ∀ a, a < n → f a = q a := fun a ha => by
      have h1 := hpf.2.2 a ha
      have h2 := hpq a ha
      unfold Mp at h2; omega
    refine sq_ext (rnL_sq ⟨f, g, hpf⟩ hs) hu fun x y hx hy => ?_
    rw [rnL_tv hpf hs hx hy]
    have gx := hpf.2.1 x hx
    have gy := hpf.2.1 y hy
    have h1 := hq.hom 0 (by simp) (g x) (g y) gx.2.1 gy.2.1
    have e1 : q (g x) = x := by rw [← hfg _ gx.2.1]; exact gx.2.2.1
    have e2 : q (g y) = y := by rw [← hfg _ gy.2.1]; exact gy.2.2.1
    rw [e1, e2] at h1
    have h2 : q (tv t (g x) (g y)) = tv u x y := h1
    rw [hfg _ (hs.lt gx.2.1 gy.2.1), h2]
  · rintro ⟨⟨f, g, hpf⟩, rfl⟩
    refine ⟨hpf.1, f, ⟨fun a ha => (hpf.2.1 a ha).1, fun a b ha hb e => ?_, fun k hk a b ha hb => ?_⟩, fun a ha => hpf.2.2 a ha⟩
    · have h1 := (hpf.2.1 a ha).2.2.2
      have h2 := (hpf.2.1 b hb).2.2.2
      rw [← h1, ← h2, e]
    · obtain rfl : k = 0 := by simp at hk; exact hk
      show f (tv t a b) = tv (rnL n t p) (f a) (f b)
      rw [rnL_tv hpf hs (hpf.2.1 a ha).1 (hpf.2.1 b hb).1, (hpf.2.1 a ha).2.2.2, (hpf.2.1 b hb).2.2.2]
theorem isP_in {n : Nat} (h4 : n ≤ 4) {p : List Int} (h : IsP n p) : p ∈ prmL n := by
  have hl := h.len
  obtain ⟨f, g, hpf⟩ := h
  refine prm_of h4 hl (fun x hx => ?_) (isP_perm ⟨f, g, hpf⟩)
  obtain ⟨i, hi, rfl⟩ := List.getElem_of_mem hx
  have h1 := hpf.2.2 i (by omega)
  have h2 := (hpf.2.1 i (by omega)).1
  rw [List.getD_eq_getElem?_getD, List.getElem?_eq_getElem hi, Option.getD_some] at h1
  rw [h1]; omega
end Go.Proofs.YtaddclaadbjnlaaGreat
namespace Go.Proofs.YtaddclaadbjnlaaGreat
set_option maxRecDepth 100000
set_option linter.unusedVariables false
set_option linter.unusedSimpArgs false
open Go.RowKit
theorem orI_cmp {α β : Type} {c : α → α → Int} {d : β → β → Int} (hc : Cmp c) (hd : Cmp d) : Cmp fun (x y : α × β) => orI (c x.1 y.1) (d x.2 y.2) := by
  refine ⟨fun x y => ?_, fun x y => ?_, fun x y z h1 h2 => ?_⟩
  · unfold orI
    have h1 := hc.eq x.1 y.1
    have h2 := hd.eq x.2 y.2
    constructor
    · intro h
      split at h
      · rename_i e; exact Prod.ext (h1.1 e) (h2.1 h)
      · rename_i e; exact absurd h e
    · intro h; subst h; rw [if_pos (hc.refl _)]; exact hd.refl _
  · unfold orI
    have h1 := hc.anti x.1 y.1
    have h2 := hd.anti x.2 y.2
    by_cases e : c x.1 y.1 = 0
    · rw [if_pos e, if_pos (by omega)]; exact h2
    · rw [if_neg e, if_neg (by omega)]; exact h1
  · unfold orI at *
    by_cases e1 : c x.1 y.1 = 0
    · rw [if_pos e1] at h1
      have hx := (hc.eq _ _).1 e1
      by_cases e2 : c y.1 z.1 = 0
      · rw [if_pos e2] at h2
        rw [if_pos (by rw [hx]; exact e2)]; exact hd.trans _ _ _ h1 h2
      · rw [if_neg e2] at h2
        rw [if_neg (by rw [hx]; exact e2), hx]; exact h2
    · rw [if_neg e1] at h1
      by_cases e2 : c y.1 z.1 = 0
      · have hy := (hc.eq _ _).1 e2
        rw [← hy, if_neg e1]; exact h1
      · rw [if_neg e2] at h2
        have := hc.trans _ _ _ h1 h2
        rw [if_neg (by omega)]; exact this
theorem cmpS_cmp : Cmp cmpS := orI_cmp cmpT_cmp cmpT_cmp
/-! ### the elements that the sort sees: places in the first list -/
def ixc (n i : Nat) : Nat := if i < n then i else 0
theorem ixc_lt {n i : Nat} (h : 0 < n) : ixc n i < n := by unfold ixc; split <;> omega
theorem ixc_in {n i : Nat} (h : i < n) : ixc n i = i := if_pos h
def encS (us : List PV) (n i : Nat) : List Value := [slT (us.getD (ixc n i) pvO).1, slT (us.getD (ixc n i) pvO).2]
def cfS (ts : List T2) (n i j : Nat) : Int := cmpS (ts.getD (ixc n i) t2O) (ts.getD (ixc n j) t2O)
theorem swoS (ts : List T2) (n : Nat) : Go.Sort.SWO (ltOf (cfS ts n)) where
  irrefl x := by unfold ltOf cfS; rw [cmpS_cmp.refl]; rfl
  trans x y z h1 h2 := by
    unfold ltOf cfS at *
    simp only [decide_eq_true_eq] at *
    exact cmpS_cmp.trans _ _ _ h1 h2
  ntrans x y z h1 h2 := by
    unfold ltOf cfS at *
    simp only [decide_eq_false_iff_not] at *
    intro h3
    by_cases e : cmpS (ts.getD (ixc n x) t2O) (ts.getD (ixc n y) t2O) = 0
    · have := (cmpS_cmp.eq _ _).1 e
      rw [this] at h3; exact h2 h3
    · have h4 : cmpS (ts.getD (ixc n y) t2O) (ts.getD (ixc n x) t2O) < 0 := by have := cmpS_cmp.anti (ts.getD (ixc n x) t2O) (ts.getD (ixc n y) t2O); omega
      exact h2 (cmpS_cmp.trans _ _ _ h4 h3)
theorem flatK_flS (us : List PV) (n : Nat) (d : Array Nat) : (Go.Sort.flatK (encS us n) 2 d).toList = flS (d.toList.map fun i => us.getD (ixc n i) pvO) := by
  apply List.ext_getElem
  · simp [flS_len]
  intro t h1 h2
  have ht : t < d.size * 2 := by simpa using h1
  have hi : t / 2 < d.size := by omega
  have hg := flS_get (d.toList.map fun i => us.getD (ixc n i) pvO) (t / 2) (by simpa using hi)
  have hd : (d.toList.map fun i => us.getD (ixc n i) pvO).getD (t / 2) pvO = us.getD (ixc n d[t / 2]!) pvO := by
    simp [List.getD_eq_getElem?_getD, hi, getElem!_pos d (t / 2) hi]
  rw [hd] at hg
  have e1 : (Go.Sort.flatK (encS us n) 2 d).toList[t] = (encS us n d[t / 2]!)[t % 2]! := by
    have := Go.Sort.get_flatK (encS us n) 2 d t ht
    rw [getElem!_pos _ t (by simpa using ht)] at this
    simpa using this
  rw [e1]
  have h01 : t % 2 = 0 ∨ t % 2 = 1 := by omega
  rcases h01 with h | h
  · have et : t = t / 2 * 2 := by omega
    have hg1 := hg.1
    rw [← et] at hg1
    rw [List.getElem?_eq_getElem h2] at hg1
    rw [Option.some.inj hg1, h]; rfl
  · have et : t = t / 2 * 2 + 1 := by omega
    have hg1 := hg.2
    rw [← et] at hg1
    rw [List.getElem?_eq_getElem h2] at hg1
    rw [Option.some.inj hg1, h]; rfl
theorem put_loc {w : World} {g : Nat} {cur : Array Value} {t : TypeId} (h : Loc w g cur t) (F : Array Value) : Loc (Go.Sort.putRow id w g 0 F) g (Go.Sort.putCells id 0 F cur) t := by
  unfold Loc Go.Sort.putRow Go.Sort.mapBlock at *
  show (w.heap.modify g _)[g]? = _
  rw [Array.getElem?_modify, if_pos rfl, h]; rfl
theorem put_ne {w : World} {g q : Nat} (F : Array Value) (hq : q ≠ g) : (Go.Sort.putRow id w g 0 F).heap[q]? = w.heap[q]? := by
  unfold Go.Sort.putRow Go.Sort.mapBlock
  show (w.heap.modify g _)[q]? = _
  rw [Array.getElem?_modify, if_neg (fun e => hq e.symm)]
theorem putCells_take (F cur : Array Value) (h : F.size ≤ cur.size) : (Go.Sort.putCells id 0 F cur).toList.take F.size = F.toList := by
  apply List.ext_getElem
  · simp [Go.Sort.putCells]; omega
  intro i h1 h2
  have hi : i < F.size := by simpa using h2
  simp [Go.Sort.putCells, hi, getElem!_pos F i hi]
set_option maxHeartbeats 4000000 in
theorem sortSo_any (n c lo : Nat) (a : Option Addr) (us : List PV) (ts : List T2) (w : World) (h : OwnSo w lo a n c us ts) (h0 : 0 < n) (hn : n ≤ 1000000) :
    Calls Tryz.prog 111 #[.slice a n c, .func (.func 78) #[] #[]] w fun e w' =>
      e = .returned (.tuple #[]) ∧ ∃ us' ts', OwnSo w' lo a n c us' ts' ∧ ts'.Perm ts ∧ (ts'.Pairwise fun x y => ¬ cmpS y x < 0) ∧ (∀ q, q < w.heap.size → a ≠ some ⟨q, 0, none⟩ → w'.heap[q]? = w.heap[q]?) ∧ w'.os = w.os ∧ w'.tape = w.tape ∧ w'.output = w.output ∧ w.heap.size ≤ w'.heap.size := by
  rcases h.block with ⟨_, h1, _⟩ | ⟨g, cur, rfl, hlo, hL, hnc, hcm, hcs, hct⟩
  · omega
  have hul := h.ulen
  have htl := h.len
  have hcell := (h.cells h0).choose_spec
  have hdl : (List.range n).toArray.size = n := by simp
  have hH : Go.Sort.HoldsK (encS us n) 2 w g 0 (List.range n).toArray := by
    intro j hj
    have hj' : j < n * 2 := by simpa [Go.Sort.HoldsK] using hj
    have hF := flatK_flS us n (List.range n).toArray
    have hmap : ((List.range n).toArray.toList.map fun i => us.getD (ixc n i) pvO) = us := by
      apply List.ext_getElem
      · simp [hul]
      intro i q1 q2
      have hi : i < n := by omega
      simp [ixc_in hi, List.getD_eq_getElem?_getD, List.getElem?_eq_getElem q2]
    rw [hmap] at hF
    refine ⟨?_, by rw [Nat.zero_add]; exact hL.free j⟩
    rw [Nat.zero_add]
    refine hL.cell j ?_
    have e : cur.toList[j]? = (flS us)[j]? := by
      rw [← hct, List.getElem?_take, if_pos hj']
    rw [← Array.getElem?_toList, e, ← hF]
    have hjs : j < (Go.Sort.flatK (encS us n) 2 (List.range n).toArray).size := by simpa using hj'
    rw [Array.getElem?_toList, Array.getElem?_eq_getElem hjs]
    show _ = some (id _)
    rw [getElem!_pos _ j hjs]; rfl
  have hW : ∀ (m : Nat) (os : Array Obj) (dk : Array Nat) (q : Nat), q < w.heap.size → q ≠ g → (sortWorldK (encS us n) 2 w g 0 m dk os).heap[q]? = w.heap[q]? := by
    intro m os dk q hq hne
    have e : (sortWorldK (encS us n) 2 w g 0 m dk os).heap[q]? = (Go.Sort.putRow id (Go.Sort.ahead w m) g 0 (Go.Sort.flatK (encS us n) 2 dk)).heap[q]? := by
      show (_ ++ os)[q]? = _
      exact Array.getElem?_append_left (by show q < (Go.Sort.putRow id (Go.Sort.ahead w m) g 0 _).heap.size; rw [Go.Sort.size_putRow]; exact hq)
    rw [e, put_ne _ hne]; rfl
  have htab : ∀ (W : World) (i : Nat), i < n → (∀ q, q < w.heap.size → q ≠ g → W.heap[q]? = w.heap[q]?) → OwnPV W lo (us.getD i pvO) (ts.getD i t2O) := fun W i hi hW => OwnPV.keep (h.tab i hi) fun q hq hlt => hW q hlt fun e => h.ap i hi g rfl (by rw [← e]; exact hq)
  have hcmp : CmpLays Tryz.prog 78 #[] (encS us n) 2 (cfS ts n) g 0 (List.range n).toArray.size w := by
    intro m os dk hdk x y
    have hx := htab _ (ixc n x) (ixc_lt h0) (hW m os dk)
    have hy := htab _ (ixc n y) (ixc_lt h0) (hW m os dk)
    exact compareSolutions_any _ _ _ _ _ _ _ _ _ _ _ _ _ _ _ _ _ hx.f.tbl hx.s.tbl hy.f.tbl hy.s.tbl (by have := hx.f.cap; omega) (by have := hx.s.cap; omega)
  have eg : ∀ args w, (callFunc 78 args).run Tryz.prog w = .ok (.enter 78 args) w := enters_of Tryz.func78 (by kernel_rfl) rfl
  have hcon := AnyQ.slices_SortFunc sortSo 2 Tryz.isAgg53 Tryz.sizeOf53 (encS us n) (fun _ => rfl) (fun x v hv => by simp [encS] at hv; rcases hv with rfl | rfl <;> rfl) (cfS ts n) (swoS ts n) 78 #[] g 0 c (List.range n).toArray w eg hcmp hH hL.lt (by rw [hdl]; omega)
  rw [hdl] at hcon
  refine hcon.mono ?_
  rintro e w' ⟨rfl, d', m, os, hp, hs, rfl⟩
  obtain ⟨hp1, _, hp3⟩ := hp
  have hdn : d'.size = n := by rw [hp1]; exact hdl
  have hperm : d'.toList.Perm (List.range n) := by
    have e1 : d'.extract 0 n = d' := by rw [← hdn]; simp
    have e2 : (List.range n).toArray.extract 0 n = (List.range n).toArray := by simp
    rw [e1, e2] at hp3; simpa using hp3
  have hlt : ∀ x ∈ d'.toList, x < n := fun x hx => List.mem_range.1 (hperm.mem_iff.1 hx)
  have hnd : d'.toList.Nodup := hperm.nodup_iff.2 List.nodup_range
  have hgd : ∀ k, k < n → ∃ i, i < n ∧ d'.toList[k]? = some i := fun k hk => by
    have hk' : k < d'.toList.length := by simpa [hdn] using hk
    exact ⟨d'.toList[k], hlt _ (List.getElem_mem hk'), List.getElem?_eq_getElem hk'⟩
  have hug : ∀ k i, d'.toList[k]? = some i → i < n → (d'.toList.map fun i => us.getD (ixc n i) pvO).getD k pvO = us.getD i pvO := fun k i e hi => by
    rw [List.getD_eq_getElem?_getD, List.getElem?_map, e, Option.map_some, Option.getD_some, ixc_in hi]
  have htg : ∀ k i, d'.toList[k]? = some i → i < n → (d'.toList.map fun i => ts.getD (ixc n i) t2O).getD k t2O = ts.getD i t2O := fun k i e hi => by
    rw [List.getD_eq_getElem?_getD, List.getElem?_map, e, Option.map_some, Option.getD_some, ixc_in hi]
  have hts : (List.range n).map (fun i => ts.getD (ixc n i) t2O) = ts := by
    apply List.ext_getElem
    · simp [htl]
    intro i q1 q2
    have hi : i < n := by omega
    simp [ixc_in hi, List.getD_eq_getElem?_getD, List.getElem?_eq_getElem q2]
  refine ⟨rfl, d'.toList.map (fun i => us.getD (ixc n i) pvO), d'.toList.map (fun i => ts.getD (ixc n i) t2O), ⟨?_, ?_, ?_, ?_, ?_, ?_⟩, ?_, ?_, ?_, rfl, rfl, rfl, ?_⟩
  · simp [hdn]
  · simp [hdn]
  · have hL1 := put_loc (w := Go.Sort.ahead w m) (show Loc (Go.Sort.ahead w m) g cur _ from hL) (Go.Sort.flatK (encS us n) 2 d')
    have hL2 : Loc (sortWorldK (encS us n) 2 w g 0 m d' os) g (Go.Sort.putCells id 0 (Go.Sort.flatK (encS us n) 2 d') cur) 53 := by
      unfold Loc at *
      have hlt1 : g < (Go.Sort.putRow id (Go.Sort.ahead w m) g 0 (Go.Sort.flatK (encS us n) 2 d')).heap.size := lt_of_block hL1
      show ((Go.Sort.putRow id (Go.Sort.ahead w m) g 0 (Go.Sort.flatK (encS us n) 2 d')).heap ++ os)[g]? = _
      rw [Array.getElem?_append_left hlt1]; exact hL1
    have hsz : (Go.Sort.flatK (encS us n) 2 d').size = n * 2 := by rw [Go.Sort.size_flatK, hdn]
    refine ownsRowSo_mk (by simp [hdn]) hlo hL2 hnc hcm (by simp [Go.Sort.putCells, hcs]) ?_
    have := putCells_take (Go.Sort.flatK (encS us n) 2 d') cur (by rw [hsz, hcs]; omega)
    rw [hsz] at this
    rw [this]; exact flatK_flS us n d'
  · intro k hk
    obtain ⟨i, hi, e⟩ := hgd k hk
    rw [hug k i e hi, htg k i e hi]
    exact htab _ i hi (hW m os d')
  · intro k hk q hq
    obtain ⟨i, hi, e⟩ := hgd k hk
    rw [hug k i e hi]
    exact h.ap i hi q hq
  · intro k l hk hl hne q hq
    obtain ⟨i, hi, e⟩ := hgd k hk
    obtain ⟨j, hj, e'⟩ := hgd l hl
    rw [hug k i e hi] at hq
    rw [hug l j e' hj]
    refine h.pw i j hi hj (fun hij => hne ?_) q hq
    subst hij
    obtain ⟨k1, k2⟩ := List.getElem?_eq_some_iff.1 e
    obtain ⟨l1, l2⟩ := List.getElem?_eq_some_iff.1 e'
    exact (List.getElem_inj hnd).1 (k2.trans l2.symm)
  · have := hperm.map fun i => ts.getD (ixc n i) t2O
    rw [hts] at this; exact this
  · rw [List.pairwise_map, List.pairwise_iff_getElem]
    intro i j q1 q2 hij hlt'
    have h1 := hs i j (Nat.zero_le _) hij (by simpa [hdn] using q2)
    have e1 : d'[i]! = d'.toList[i] := by rw [getElem!_pos d' i (by simpa using q1)]; simp
    have e2 : d'[j]! = d'.toList[j] := by rw [getElem!_pos d' j (by simpa using q2)]; simp
    rw [e1, e2] at h1
    unfold ltOf cfS at h1
    simp only [decide_eq_false_iff_not] at h1
    exact h1 hlt'
  · intro q hq hne
    exact hW m os d' q hq (fun e => hne (by rw [e]))
  · show w.heap.size ≤ (_ ++ os).size
    rw [Array.size_append]
    have : (Go.Sort.putRow id (Go.Sort.ahead w m) g 0 (Go.Sort.flatK (encS us n) 2 d')).heap.size = w.heap.size := by rw [Go.Sort.size_putRow]; rfl
    show w.heap.size ≤ (Go.Sort.putRow id (Go.Sort.ahead w m) g 0 (Go.Sort.flatK (encS us n) 2 d')).heap.size + os.size
    omega
end Go.Proofs.YtaddclaadbjnlaaGreat
namespace Go.Proofs.YtaddclaadbjnlaaGreat
set_option maxRecDepth 100000
set_option linter.unusedVariables false
set_option linter.unusedSimpArgs false
def solF (n : Nat) (f r : List (List Int)) : Bool := eqOk n f (trnL n r) && collOk n f (trnL n r)
def solG (n : Nat) (f : List (List Int)) (rs : List (List (List Int))) : List (List (List Int) × List (List Int)) := (rs.filter (solF n f)).map fun r => (f, trnL n r)
def solL (n : Nat) : List (List (List Int) × List (List Int)) := (allT (prmL n) n []).flatMap fun f => solG n f (allT (prmL n) n [])
def solK (n : Nat) (L : List (List (List Int))) (i j : Nat) : List (List (List Int) × List (List Int)) := ((L.take i).flatMap fun f => solG n f L) ++ solG n (L.getD i []) (L.take j)
theorem solK_zero (n : Nat) (L : List (List (List Int))) : solK n L 0 0 = [] := by simp [solK, solG]
theorem solK_yes {n : Nat} {L : List (List (List Int))} {i j : Nat} (hj : j < L.length) (h : solF n (L.getD i []) (L.getD j []) = true) : solK n L i (j + 1) = solK n L i j ++ [(L.getD i [], trnL n (L.getD j []))] := by
  have e : L.getD j [] = L[j] := by simp [List.getD_eq_getElem?_getD, List.getElem?_eq_getElem hj]
  rw [e] at h ⊢
  unfold solK solG
  rw [List.take_succ_eq_append_getElem hj, List.filter_append, List.map_append, ← List.append_assoc]
  rw [List.filter_cons, if_pos h]; rfl
theorem solK_no {n : Nat} {L : List (List (List Int))} {i j : Nat} (hj : j < L.length) (h : solF n (L.getD i []) (L.getD j []) = false) : solK n L i (j + 1) = solK n L i j := by
  have e : L.getD j [] = L[j] := by simp [List.getD_eq_getElem?_getD, List.getElem?_eq_getElem hj]
  rw [e] at h
  unfold solK solG
  rw [List.take_succ_eq_append_getElem hj, List.filter_append, List.map_append]
  rw [List.filter_cons, if_neg (by rw [h]; simp)]; simp
theorem solK_next {n : Nat} {L : List (List (List Int))} {i : Nat} (hi : i < L.length) : solK n L i L.length = solK n L (i + 1) 0 := by
  unfold solK
  rw [List.take_length, List.take_succ_eq_append_getElem hi, List.flatMap_append]
  simp [solG, List.getD_eq_getElem?_getD, List.getElem?_eq_getElem hi]
theorem solK_all (n : Nat) (L : List (List (List Int))) : solK n L L.length 0 = L.flatMap fun f => solG n f L := by
  unfold solK; rw [List.take_length]; simp [solG]
theorem solG_len (n : Nat) (f : List (List Int)) (rs : List (List (List Int))) : (solG n f rs).length ≤ rs.length := by
  unfold solG; rw [List.length_map]; exact List.length_filter_le _ _
theorem flat_len {α β : Type} (g : α → List β) (b : Nat) (h : ∀ x, (g x).length ≤ b) : ∀ l : List α, (l.flatMap g).length ≤ l.length * b := by
  intro l
  induction l with
  | nil => simp
  | cons x l ih => rw [List.flatMap_cons, List.length_append, List.length_cons, Nat.succ_mul]; have := h x; omega
theorem solK_len (n : Nat) (L : List (List (List Int))) (i j : Nat) : (solK n L i j).length ≤ L.length * L.length + L.length := by
  unfold solK
  rw [List.length_append]
  have h1 := flat_len (fun f => solG n f L) L.length (fun f => solG_len n f L) (L.take i)
  have h2 := solG_len n (L.getD i []) (L.take j)
  have h3 : (L.take i).length * L.length ≤ L.length * L.length := Nat.mul_le_mul_right _ (by simp; omega)
  have h4 : (L.take j).length ≤ L.length := by simp; omega
  omega
theorem solL_len (n : Nat) : (solL n).length ≤ (allT (prmL n) n []).length * (allT (prmL n) n []).length := flat_len _ _ (fun f => solG_len n f _) _
theorem allT_dig : ∀ n : Fin 4, 1 ≤ n.1 → allT (prmL n.1) n.1 [] = (List.range ((prmL n.1).length ^ n.1)).map fun i => (digL (prmL n.1).length n.1 i).map fun d => (prmL n.1).getD d.toNat [] := by decide +kernel
theorem allT_len : ∀ n : Fin 4, 1 ≤ n.1 → (allT (prmL n.1) n.1 []).length = (prmL n.1).length ^ n.1 ∧ (prmL n.1).length ^ n.1 ≤ 216 ∧ 1 ≤ (prmL n.1).length ∧ (prmL n.1).length ≤ 6 := by decide +kernel
theorem rowL_any {n : Nat} (h1 : 1 ≤ n) : rowL n (fun _ => true) = allT (prmL n) n [] := by
  rw [rowL_filter h1 (fits := fun _ => true) (fun _ _ _ => rfl)]
  exact List.filter_eq_self.2 fun _ _ => rfl
end Go.Proofs.YtaddclaadbjnlaaGreat
