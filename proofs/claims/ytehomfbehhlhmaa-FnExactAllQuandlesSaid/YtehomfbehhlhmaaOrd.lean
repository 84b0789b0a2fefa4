/-
  The order of tables; least forms and sorted lists, in plain lists.
  No condition.
-/
import Derived.Test.YtehomfbehhlhmaaLisS
namespace Go.Proofs.Ytehomfbehhlhmaa
set_option maxRecDepth 100000
set_option linter.unusedVariables false
set_option linter.unusedSimpArgs false

/-- what makes a comparison an order -/
structure Cmp {α : Type} (c : α → α → Int) : Prop where
  eq : ∀ x y, c x y = 0 ↔ x = y
  anti : ∀ x y, c y x = - c x y
  trans : ∀ x y z, c x y < 0 → c y z < 0 → c x z < 0
theorem cmpI_cmp : Cmp cmpI := by
  refine ⟨fun x y => cmpI_eq, fun x y => ?_, fun x y z h1 h2 => ?_⟩
  · unfold cmpI
    by_cases h1 : x < y
    · rw [if_pos h1, if_neg (by omega), if_pos h1]; rfl
    · by_cases h2 : y < x
      · simp [h1, h2]
      · simp [h1, h2]
  · unfold cmpI at *
    split at h1
    · split at h2
      · rw [if_pos (by omega)]; omega
      · split at h2 <;> omega
    · split at h1 <;> omega
theorem cmpG_cmp {α : Type} {c : α → α → Int} (h : Cmp c) : Cmp (cmpG c) := by
  refine ⟨cmpG_eq h.eq, ?_, ?_⟩
  · intro xs
    induction xs with
    | nil => intro ys; cases ys <;> simp [cmpG]
    | cons x xs ih =>
      intro ys
      cases ys with
      | nil => simp [cmpG]
      | cons y ys =>
        simp only [cmpG]
        have h1 := h.anti x y
        by_cases e : c x y = 0
        · rw [if_pos e, if_pos (by omega)]; exact ih ys
        · rw [if_neg e, if_neg (by omega)]; exact h1
  · intro xs
    induction xs with
    | nil =>
      intro ys zs h1 h2
      cases ys with
      | nil => exact h2
      | cons y ys => cases zs with
        | nil => simp [cmpG] at h2
        | cons z zs => simp [cmpG]
    | cons x xs ih =>
      intro ys zs h1 h2
      cases ys with
      | nil => simp [cmpG] at h1
      | cons y ys =>
        cases zs with
        | nil => simp [cmpG] at h2
        | cons z zs =>
          simp only [cmpG] at *
          by_cases e1 : c x y = 0
          · rw [if_pos e1] at h1
            have : x = y := (h.eq _ _).1 e1
            subst this
            by_cases e2 : c x z = 0
            · rw [if_pos e2] at h2 ⊢; exact ih _ _ h1 h2
            · rw [if_neg e2] at h2 ⊢; exact h2
          · rw [if_neg e1] at h1
            by_cases e2 : c y z = 0
            · have : y = z := (h.eq _ _).1 e2
              subst this
              rw [if_neg e1]; exact h1
            · rw [if_neg e2] at h2
              have h3 := h.trans x y z h1 h2
              rw [if_neg (by omega)]; exact h3
theorem cmpL_cmp : Cmp cmpL := cmpG_cmp cmpI_cmp
theorem cmpT_cmp : Cmp cmpT := cmpG_cmp cmpL_cmp
theorem Cmp.refl {α : Type} {c : α → α → Int} (h : Cmp c) (x : α) : c x x = 0 := (h.eq x x).2 rfl
/-- x ≤ y < z -/
theorem Cmp.le_lt {α : Type} {c : α → α → Int} (h : Cmp c) {x y z : α} (h1 : ¬ c y x < 0) (h2 : c y z < 0) : c x z < 0 := by
  by_cases e : c x y = 0
  · rw [(h.eq _ _).1 e]; exact h2
  · exact h.trans x y z (by have := h.anti x y; omega) h2
theorem cmpG_append {α : Type} {c : α → α → Int} (h : Cmp c) (o x y : List α) : cmpG c (o ++ x) (o ++ y) = cmpG c x y := by
  induction o with
  | nil => rfl
  | cons a o ih => simp only [List.cons_append, cmpG]; rw [if_pos (h.refl a)]; exact ih
/-- a table is its least form exactly if no image comes before it -/
theorem lst_keep {n : Nat} {t : List (List Int)} : ∀ (ps : List (List Int)), (∀ p ∈ ps, ¬ cmpT (rnL n t p) t < 0) → ps.foldl (lstF n t) t = t := by
  intro ps
  induction ps with
  | nil => intro _; rfl
  | cons p ps ih =>
    intro h
    simp only [List.foldl_cons]
    have : lstF n t t p = t := by unfold lstF; rw [if_neg (h p (by simp))]
    rw [this]
    exact ih fun q hq => h q (by simp [hq])
theorem lst_less {n : Nat} {t : List (List Int)} : ∀ (ps : List (List Int)) (b : List (List Int)), (cmpT b t < 0 ∨ ∃ p ∈ ps, cmpT (rnL n t p) t < 0) → cmpT (ps.foldl (lstF n t) b) t < 0 := by
  intro ps
  induction ps with
  | nil => intro b h; rcases h with h | ⟨p, hp, _⟩
           · exact h
           · simp at hp
  | cons p ps ih =>
    intro b h
    simp only [List.foldl_cons]
    apply ih
    unfold lstF
    split
    · rename_i hlt
      rcases h with h | ⟨q, hq, hl⟩
      · exact .inl (cmpT_cmp.trans _ _ _ hlt h)
      · rcases List.mem_cons.1 hq with e | e
        · subst e; exact .inl hl
        · exact .inr ⟨q, e, hl⟩
    · rename_i hge
      rcases h with h | ⟨q, hq, hl⟩
      · exact .inl h
      · rcases List.mem_cons.1 hq with e | e
        · subst e; exact .inl (cmpT_cmp.le_lt hge hl)
        · exact .inr ⟨q, e, hl⟩
theorem befS_one {x y : List (List Int)} (h : x.length = y.length) : befS [x] [y] = decide (cmpT x y < 0) := by
  have : ∀ (t s : List (List Int)), t.length = s.length → befT false t s = decide (cmpT t s < 0) := by
    intro t
    induction t with
    | nil => intro s hs; cases s with
             | nil => rfl
             | cons _ _ => simp at hs
    | cons a t ih =>
      intro s hs
      cases s with
      | nil => simp at hs
      | cons b s =>
        by_cases e : cmpL a b = 0
        · have e1 : cmpT (a :: t) (b :: s) = cmpT t s := by show (if _ then _ else _) = _; rw [if_pos e]; rfl
          have e2 : befT false (a :: t) (b :: s) = befT false t s := by show (if _ then _ else _) = _; rw [if_pos e]
          rw [e2, ih s (by simpa using hs)]
          exact decide_eq_decide.2 (by rw [e1])
        · have e1 : cmpT (a :: t) (b :: s) = cmpL a b := by show (if _ then _ else _) = _; rw [if_neg e]
          have e2 : befT false (a :: t) (b :: s) = decide (cmpL a b < 0) := by show (if _ then _ else _) = _; rw [if_neg e]
          rw [e2]
          exact decide_eq_decide.2 (by rw [e1])
  exact this x y h
theorem lstB_onl {n : Nat} {t : List (List Int)} (hl : t.length = n) : lstB n t = onlL n (prmL n) [t] := by
  have hb : ∀ p, befS (imgL n p [t]) [t] = decide (cmpT (rnL n t p) t < 0) := fun p => befS_one (by rw [rnL_len, hl])
  unfold lstB onlL
  rw [Bool.eq_iff_iff, decide_eq_true_iff, List.all_eq_true]
  constructor
  · intro e i hi
    unfold onlP
    rw [hb]
    have hi := List.mem_range.1 hi
    by_cases hc : cmpT (rnL n t ((prmL n).getD i [])) t < 0
    · exfalso
      have hm : (prmL n).getD i [] ∈ prmL n := by
        rw [List.getD_eq_getElem?_getD, List.getElem?_eq_getElem hi]; exact List.getElem_mem hi
      have := lst_less (n := n) (t := t) (prmL n) t (.inr ⟨_, hm, hc⟩)
      unfold leastL at e
      rw [← e] at this
      have h0 := cmpT_cmp.refl t
      omega
    · rw [decide_eq_false hc]; rfl
  · intro h
    symm
    refine lst_keep _ fun p hp hc => ?_
    obtain ⟨i, hi, e⟩ := List.getElem_of_mem hp
    have := h i (List.mem_range.2 hi)
    unfold onlP at this
    rw [hb, List.getD_eq_getElem?_getD, List.getElem?_eq_getElem hi, Option.getD_some, e] at this
    simp [hc] at this
/-- the tables row by row come in order -/
theorem rowG_sorted {ps : List (List Int)} {fits : List (List Int) → Bool} (hps : ps.Pairwise fun p q => cmpL p q < 0) : ∀ (m : Nat) (o : List (List Int)), (rowG ps fits m o).Pairwise fun x y => cmpT x y < 0 := by
  intro m
  induction m with
  | zero => intro o; simp [rowG]
  | succ m ih =>
    intro o
    unfold rowG
    rw [List.pairwise_flatMap]
    refine ⟨fun p _ => ?_, hps.imp fun {p q} hpq x hx y hy => ?_⟩
    · split
      · exact ih _
      · exact List.Pairwise.nil
    · split at hx
      · split at hy
        · obtain ⟨r, e1, _, _⟩ := rowG_mem _ _ _ hx
          obtain ⟨s, e2, _, _⟩ := rowG_mem _ _ _ hy
          rw [e1, e2, List.append_assoc, List.append_assoc]
          show cmpG cmpL _ _ < 0
          rw [cmpG_append cmpL_cmp]
          simp only [List.cons_append, List.nil_append, cmpG]
          rw [if_neg (by omega)]; exact hpq
        · simp at hy
      · simp at hx
theorem prm_sorted : ∀ n : Fin 5, (prmL n.1).Pairwise fun p q => cmpL p q < 0 := by decide +kernel
/-- what is sorted already stays -/
theorem srt_sorted {n : Nat} {flt : List (List Int) → Bool} : ∀ (L : List (List (List Int))) (acc : List (List (List Int))), (∀ t ∈ L, t.length = n) → (∀ t ∈ acc, t.length = n) → L.Pairwise (fun x y => cmpT x y < 0) → (∀ x ∈ acc, ∀ y ∈ L, cmpT x y < 0) → L.foldl (srtF n flt) (acc.map fun t => [t]) = (acc ++ L.filter fun t => flt t && onlL n (prmL n) [t]).map fun t => [t] := by
  intro L
  induction L with
  | nil => intro acc _ _ _ _; simp
  | cons t L ih =>
    intro acc hl ha hp hx
    rw [List.pairwise_cons] at hp
    simp only [List.foldl_cons]
    cases hc : (flt t && onlL n (prmL n) [t]) with
    | true =>
      have e : srtF n flt (acc.map fun t => [t]) t = (acc ++ [t]).map fun t => [t] := by
        unfold srtF
        rw [if_pos hc, insQ_at (k := (acc.map fun t => [t]).length) (Nat.le_refl _) (fun i hi => ?_) (.inl rfl)]
        · rw [List.take_length, List.drop_length, List.map_append]; rfl
        · rw [List.length_map] at hi
          have hb := befS_one (x := acc[i]) (y := t) (by rw [ha _ (List.getElem_mem hi), hl t (by simp)])
          rw [List.getD_eq_getElem?_getD, List.getElem?_map, List.getElem?_eq_getElem hi, Option.map_some, Option.getD_some, hb]
          simp only [decide_eq_true_eq]
          exact hx _ (List.getElem_mem hi) t (by simp)
      rw [e, ih (acc ++ [t]) (fun s hs => hl s (by simp [hs])) (fun s hs => by
        rcases List.mem_append.1 hs with h | h
        · exact ha s h
        · simp at h; rw [h]; exact hl t (by simp)) hp.2 (fun x h y hy => by
        rcases List.mem_append.1 h with h | h
        · exact hx x h y (by simp [hy])
        · simp at h; rw [h]; exact hp.1 y hy)]
      rw [List.filter_cons, hc]; simp
    | false =>
      have e : srtF n flt (acc.map fun t => [t]) t = acc.map fun t => [t] := by unfold srtF; rw [hc]; rfl
      rw [e, ih acc (fun s hs => hl s (by simp [hs])) ha hp.2 (fun x h y hy => hx x h y (by simp [hy]))]
      rw [List.filter_cons, hc]; simp
theorem srtL_filter {n : Nat} {flt : List (List Int) → Bool} {L : List (List (List Int))} (hl : ∀ t ∈ L, t.length = n) (hp : L.Pairwise fun x y => cmpT x y < 0) : srtL n flt L = L.filter fun t => flt t && lstB n t := by
  have h := srt_sorted (n := n) (flt := flt) L [] hl (by simp) hp (by simp)
  unfold srtL
  simp only [List.map_nil, List.nil_append] at h
  rw [h, List.map_map]
  have : ((fun A : List (List (List Int)) => A.getD 0 []) ∘ fun t => [t]) = id := rfl
  rw [this, List.map_id]
  exact List.filter_congr fun t ht => by rw [lstB_onl (hl t ht)]
theorem rowL_len {n : Nat} {fits : List (List Int) → Bool} : ∀ t ∈ rowL n fits, t.length = n := fun t ht => by
  obtain ⟨r, e, h, _⟩ := rowG_mem _ _ _ ht
  rw [e]; simpa using h
end Go.Proofs.Ytehomfbehhlhmaa
