/-
  The reference's list of solutions: what sorting by putting in leads to.
  No program in sight.
-/
import Derived.Test.YthgafpeblpnolaaGreatBase3
import Derived.Test.YthgafpeblpnolaaGreatAslI
namespace Go.Proofs.YthgafpeblpnolaaGreat
set_option maxRecDepth 100000
set_option linter.unusedVariables false
set_option linter.unusedSimpArgs false
open Go.RowKit

def prS (s : T2) : List (List (List Int)) := [s.1, s.2]
def slrF (n : Nat) (acc : List (List (List (List Int)))) (s : T2) : List (List (List (List Int))) := if onlL n (prmL n) (prS s) then insQ (prS s) acc else acc
def slrK (n : Nat) (L : List T2) (k : Nat) : List (List (List (List Int))) := (L.take k).foldl (slrF n) []
theorem slrK_succ (n : Nat) (L : List T2) {k : Nat} (h : k < L.length) : slrK n L (k + 1) = slrF n (slrK n L k) (L.getD k t2O) := by
  unfold slrK
  rw [List.take_succ_eq_append_getElem h, List.foldl_append]
  simp [List.getD_eq_getElem?_getD, List.getElem?_eq_getElem h]
theorem slrK_shp {n : Nat} {L : List T2} (hL : ∀ s ∈ L, s.1.length = n ∧ s.2.length = n) : ∀ k, k ≤ L.length → (slrK n L k).length ≤ k ∧ ∀ A ∈ slrK n L k, ∃ s ∈ L, A = prS s := by
  intro k
  induction k with
  | zero => intro _; exact ⟨by simp [slrK], by simp [slrK]⟩
  | succ k ih =>
    intro hk
    obtain ⟨h1, h2⟩ := ih (by omega)
    have hm : L.getD k t2O ∈ L := by
      rw [List.getD_eq_getElem?_getD, List.getElem?_eq_getElem (show k < L.length by omega)]; exact List.getElem_mem _
    rw [slrK_succ n L (by omega)]
    unfold slrF
    split
    · refine ⟨by rw [insQ_len]; omega, fun A hA => ?_⟩
      rcases insQ_mem hA with e | e
      · exact ⟨_, hm, e⟩
      · exact h2 A e
    · exact ⟨by omega, h2⟩
theorem prS_shp {n : Nat} {s : T2} (h : s.1.length = n ∧ s.2.length = n) : Shp 2 n (prS s) := ⟨rfl, fun k hk => by
  match k, hk with
  | 0, _ => exact h.1
  | 1, _ => exact h.2⟩
theorem befT_cmp (r : Bool) : ∀ (t s : List (List Int)), t.length = s.length → befT r t s = if cmpT t s = 0 then r else decide (cmpT t s < 0) := by
  intro t
  induction t with
  | nil => intro s hs; cases s with
           | nil => rfl
           | cons _ _ => simp at hs
  | cons a t ih =>
    intro s hs
    cases s with
    | nil => simp at hs
    | cons b s =>
      by_cases e : cmpL a b = 0
      · have e1 : cmpT (a :: t) (b :: s) = cmpT t s := by show (if _ then _ else _) = _; rw [if_pos e]; rfl
        have e2 : befT r (a :: t) (b :: s) = befT r t s := by show (if _ then _ else _) = _; rw [if_pos e]
        rw [e2, e1]; exact ih s (by simpa using hs)
      · have e1 : cmpT (a :: t) (b :: s) = cmpL a b := by show (if _ then _ else _) = _; rw [if_neg e]
        have e2 : befT r (a :: t) (b :: s) = decide (cmpL a b < 0) := by show (if _ then _ else _) = _; rw [if_neg e]
        rw [e2, e1, if_neg e]
theorem befS_two {x y : T2} (h1 : x.1.length = y.1.length) (h2 : x.2.length = y.2.length) : befS (prS x) (prS y) = decide (cmpS x y < 0) := by
  show befT (befT false x.2 y.2) x.1 y.1 = _
  rw [befT_cmp _ _ _ h1, befT_cmp _ _ _ h2]
  unfold cmpS orI
  show _ = decide ((if cmpT x.1 y.1 = 0 then cmpT x.2 y.2 else cmpT x.1 y.1) < 0)
  by_cases e : cmpT x.1 y.1 = 0
  · rw [if_pos e]
    by_cases e2 : cmpT x.2 y.2 = 0
    · rw [if_pos e2]
      symm; apply decide_eq_false; rw [if_pos e, e2]; omega
    · rw [if_neg e2]; exact decide_eq_decide.2 (by rw [if_pos e])
  · rw [if_neg e]; exact decide_eq_decide.2 (by rw [if_neg e])
/-- a pair map is its least form exactly if no image comes before it -/
theorem les_keep {n : Nat} {s : T2} : ∀ (ps : List (List Int)), (∀ p ∈ ps, ¬ cmpS (rnS n s p) s < 0) → ps.foldl (lesF n s) s = s := by
  intro ps
  induction ps with
  | nil => intro _; rfl
  | cons p ps ih =>
    intro h
    simp only [List.foldl_cons]
    have : lesF n s s p = s := by rw [lesF_cmp, if_neg (h p (by simp))]
    rw [this]
    exact ih fun q hq => h q (by simp [hq])
theorem les_less {n : Nat} {s : T2} : ∀ (ps : List (List Int)) (b : T2), (cmpS b s < 0 ∨ ∃ p ∈ ps, cmpS (rnS n s p) s < 0) → cmpS (ps.foldl (lesF n s) b) s < 0 := by
  intro ps
  induction ps with
  | nil => intro b h; rcases h with h | ⟨p, hp, _⟩
           · exact h
           · simp at hp
  | cons p ps ih =>
    intro b h
    simp only [List.foldl_cons]
    apply ih
    rw [lesF_cmp]
    split
    · rename_i hlt
      rcases h with h | ⟨q, hq, hl⟩
      · exact .inl (cmpS_cmp.trans _ _ _ hlt h)
      · rcases List.mem_cons.1 hq with e | e
        · subst e; exact .inl hl
        · exact .inr ⟨q, e, hl⟩
    · rename_i hge
      rcases h with h | ⟨q, hq, hl⟩
      · exact .inl h
      · rcases List.mem_cons.1 hq with e | e
        · subst e; exact .inl (cmpS_cmp.le_lt hge hl)
        · exact .inr ⟨q, e, hl⟩
theorem ownB_onl {n : Nat} {s : T2} (h1 : s.1.length = n) (h2 : s.2.length = n) : ownB n s = onlL n (prmL n) (prS s) := by
  have hb : ∀ p, befS (imgL n p (prS s)) (prS s) = decide (cmpS (rnS n s p) s < 0) := fun p => by
    have : imgL n p (prS s) = prS (rnS n s p) := rfl
    rw [this]
    exact befS_two (by show (rnL n s.1 p).length = _; rw [rnL_len, h1]) (by show (rnL n s.2 p).length = _; rw [rnL_len, h2])
  unfold ownB onlL
  rw [Bool.eq_iff_iff, decide_eq_true_iff, List.all_eq_true, cmpS_cmp.eq]
  constructor
  · intro e i hi
    unfold onlP
    rw [hb]
    have hi := List.mem_range.1 hi
    by_cases hc : cmpS (rnS n s ((prmL n).getD i [])) s < 0
    · exfalso
      have hm : (prmL n).getD i [] ∈ prmL n := by
        rw [List.getD_eq_getElem?_getD, List.getElem?_eq_getElem hi]; exact List.getElem_mem hi
      have := les_less (n := n) (s := s) (prmL n) s (.inr ⟨_, hm, hc⟩)
      unfold lesL at e
      rw [← e] at this
      have h0 := cmpS_cmp.refl s
      omega
    · rw [decide_eq_false hc]; rfl
  · intro h
    symm
    refine les_keep _ fun p hp hc => ?_
    obtain ⟨i, hi, e⟩ := List.getElem_of_mem hp
    have := h i (List.mem_range.2 hi)
    unfold onlP at this
    rw [hb, List.getD_eq_getElem?_getD, List.getElem?_eq_getElem hi, Option.getD_some, e] at this
    simp [hc] at this

/-- putting in keeps the order, and the elements -/
def insS (s : T2) (L : List T2) : List T2 := L.takeWhile (fun t => decide (cmpS t s < 0)) ++ s :: L.dropWhile (fun t => decide (cmpS t s < 0))
theorem insS_perm (s : T2) (L : List T2) : (insS s L).Perm (s :: L) := by
  have := List.takeWhile_append_dropWhile (p := fun t => decide (cmpS t s < 0)) (l := L)
  unfold insS
  refine List.perm_middle.trans ?_
  rw [this]
theorem insS_sorted {s : T2} : ∀ {L : List T2}, L.Pairwise (fun x y => ¬ cmpS y x < 0) → (insS s L).Pairwise fun x y => ¬ cmpS y x < 0 := by
  intro L
  induction L with
  | nil => intro _; simp [insS]
  | cons t L ih =>
    intro h
    rw [List.pairwise_cons] at h
    by_cases e : cmpS t s < 0
    · have : insS s (t :: L) = t :: insS s L := by simp [insS, e]
      rw [this, List.pairwise_cons]
      refine ⟨fun y hy => ?_, ih h.2⟩
      rcases List.mem_cons.1 ((insS_perm s L).mem_iff.1 hy) with r | r
      · subst r; have := cmpS_cmp.anti y t; omega
      · exact h.1 y r
    · have : insS s (t :: L) = s :: t :: L := by simp [insS, e]
      rw [this, List.pairwise_cons]
      refine ⟨fun y hy => ?_, List.pairwise_cons.2 h⟩
      rcases List.mem_cons.1 hy with r | r
      · subst r; exact e
      · intro hlt
        exact h.1 y r (by
          have h2 : ¬ cmpS t s < 0 := e
          by_cases hq : cmpS s t < 0
          · exact cmpS_cmp.trans _ _ _ hlt hq
          · have : cmpS s t = 0 := by have := cmpS_cmp.anti s t; omega
            obtain rfl := (cmpS_cmp.eq s t).1 this
            exact hlt)
theorem insQ_insS {n : Nat} {s : T2} (hs : s.1.length = n ∧ s.2.length = n) : ∀ {L : List T2}, (∀ t ∈ L, t.1.length = n ∧ t.2.length = n) → insQ (prS s) (L.map prS) = (insS s L).map prS := by
  intro L
  induction L with
  | nil => intro _; rfl
  | cons t L ih =>
    intro h
    have ht := h t (by simp)
    have hb := befS_two (x := t) (y := s) (by rw [ht.1, hs.1]) (by rw [ht.2, hs.2])
    have ihl := ih fun u hu => h u (by simp [hu])
    by_cases e : cmpS t s < 0
    · have e1 : insS s (t :: L) = t :: insS s L := by simp [insS, e]
      have e2 : insQ (prS s) ((t :: L).map prS) = prS t :: insQ (prS s) (L.map prS) := by
        have : befS (prS t) (prS s) = true := by rw [hb]; simpa using e
        simp [insQ, this]
      rw [e1, e2, ihl]; rfl
    · have e1 : insS s (t :: L) = s :: t :: L := by simp [insS, e]
      have e2 : insQ (prS s) ((t :: L).map prS) = prS s :: prS t :: L.map prS := by
        have : befS (prS t) (prS s) = false := by rw [hb]; simpa using e
        simp [insQ, this]
      rw [e1, e2]; rfl
/-- what the reference's sorting holds behind k tables -/
theorem slr_inv {n : Nat} : ∀ (L : List T2) (acc : List T2), (∀ s ∈ L, s.1.length = n ∧ s.2.length = n) → (∀ s ∈ acc, s.1.length = n ∧ s.2.length = n) → acc.Pairwise (fun x y => ¬ cmpS y x < 0) →
    ∃ out : List T2, L.foldl (slrF n) (acc.map prS) = out.map prS ∧ out.Perm (acc ++ L.filter (ownB n)) ∧ out.Pairwise fun x y => ¬ cmpS y x < 0 := by
  intro L
  induction L with
  | nil => intro acc _ _ hp; exact ⟨acc, rfl, by simp, hp⟩
  | cons s L ih =>
    intro acc hl ha hp
    have hs := hl s (by simp)
    have ho := ownB_onl hs.1 hs.2
    cases hc : ownB n s with
    | true =>
      have e : slrF n (acc.map prS) s = (insS s acc).map prS := by
        unfold slrF; rw [← ho, hc, if_pos rfl, insQ_insS hs ha]
      obtain ⟨out, h1, h2, h3⟩ := ih (insS s acc) (fun t ht => hl t (by simp [ht])) (fun t ht => by
        rcases List.mem_cons.1 ((insS_perm s acc).mem_iff.1 ht) with r | r
        · rw [r]; exact hs
        · exact ha t r) (insS_sorted hp)
      refine ⟨out, by simp only [List.foldl_cons]; rw [e, h1], h2.trans ?_, h3⟩
      rw [List.filter_cons, hc]
      simp only [if_true]
      refine ((insS_perm s acc).append_right _).trans ?_
      exact List.perm_middle.symm
    | false =>
      have e : slrF n (acc.map prS) s = acc.map prS := by
        unfold slrF; rw [← ho, hc]; rfl
      obtain ⟨out, h1, h2, h3⟩ := ih acc (fun t ht => hl t (by simp [ht])) ha hp
      refine ⟨out, by simp only [List.foldl_cons]; rw [e, h1], ?_, h3⟩
      rw [List.filter_cons, hc]; exact h2
/-- one order alone -/
theorem sorted_eq : ∀ {A B : List T2}, A.Perm B → A.Pairwise (fun x y => ¬ cmpS y x < 0) → B.Pairwise (fun x y => ¬ cmpS y x < 0) → A = B := by
  intro A
  induction A with
  | nil => intro B h _ _; exact (List.nil_perm.1 h).symm
  | cons a A ih =>
    intro B h ha hb
    cases B with
    | nil => exact absurd h.length_eq (by simp)
    | cons b B =>
      have e : a = b := by
        rw [List.pairwise_cons] at ha hb
        rcases List.mem_cons.1 (h.mem_iff.1 (List.mem_cons_self (a := a))) with r | r
        · exact r
        · rcases List.mem_cons.1 (h.mem_iff.2 (List.mem_cons_self (a := b))) with r2 | r2
          · exact r2.symm
          · have h1 := hb.1 a r
            have h2 := ha.1 b r2
            have h3 := cmpS_cmp.anti a b
            exact (cmpS_cmp.eq a b).1 (by omega)
      subst e
      rw [ih ((List.perm_cons a).1 h) (List.pairwise_cons.1 ha).2 (List.pairwise_cons.1 hb).2]

def slrL (n : Nat) : List T2 := ((solL n).foldl (slrF n) []).map fun A => (A.getD 0 [], A.getD 1 [])
theorem slrL_map {n : Nat} (hl : ∀ s ∈ solL n, s.1.length = n ∧ s.2.length = n) : (solL n).foldl (slrF n) [] = (slrL n).map prS ∧ (slrL n).Perm (lstSo n) ∧ (slrL n).Pairwise fun x y => ¬ cmpS y x < 0 := by
  obtain ⟨out, h1, h2, h3⟩ := slr_inv (n := n) (solL n) [] hl (by simp) (by simp)
  simp only [List.map_nil, List.nil_append] at h1 h2
  have e : slrL n = out := by
    unfold slrL
    rw [h1, List.map_map]
    exact List.map_id _
  rw [e]
  exact ⟨h1, h2, h3⟩
theorem slrL_eq {n : Nat} (hl : ∀ s ∈ solL n, s.1.length = n ∧ s.2.length = n) {ts : List T2} (hp : ts.Perm (lstSo n)) (hs : ts.Pairwise fun x y => ¬ cmpS y x < 0) : ts = slrL n :=
  sorted_eq (hp.trans (slrL_map hl).2.1.symm) hs (slrL_map hl).2.2
theorem solL_lens {n : Nat} (h1 : 1 ≤ n) (h3 : n ≤ 3) : ∀ s ∈ solL n, s.1.length = n ∧ s.2.length = n := fun s hs => ⟨(solL_sq h1 h3 s hs).1.1, (solL_sq h1 h3 s hs).2.1⟩
end Go.Proofs.YthgafpeblpnolaaGreat
