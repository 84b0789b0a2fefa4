/-
  Walks and plain laws of this seat, some texts in one.
  No condition but bounds on lengths.
-/
import Derived.Test.YtpdgpgbgakinlaaGreatPa32
import Derived.Test.YtpdgpgbgakinlaaGreatPa26
import Derived.Test.YtpdgpgbgakinlaaGreatPa6
import Derived.Test.YtpdgpgbgakinlaaGreatPa9
import Derived.Shelf.Abstract
import Derived.Test.YtpdgpgbgakinlaaGreatPa5
import Derived.Test.YtpdgpgbgakinlaaGreatPa1
import Derived.Test.YtpdgpgbgakinlaaGreatPa3
import Derived.Test.YtpdgpgbgakinlaaGreatPa8
import Derived.Test.YtpdgpgbgakinlaaGreatPa2
import Derived.BigRegion
import Derived.Test.YtpdgpgbgakinlaaGreatPa10
import Derived.Deep.RegionLaw
import Derived.Test.YtpdgpgbgakinlaaGreatPa17
import Derived.Test.YtpdgpgbgakinlaaGreatPa18
namespace Go.Proofs.YtpdgpgbgakinlaaGreat
set_option maxRecDepth 100000
set_option linter.unusedVariables false
set_option linter.unusedSimpArgs false
open Go.RowKit
set_option maxHeartbeats 1000000 in
theorem spec_Isw_l (a : Option Addr) (n c : Nat) (f : List (List Int)) (a' : Option Addr) (n' c' : Nat) (g : List (List Int)) (m : Int) (am : Option Addr) (nm cm : Nat) (M : List (List Int)) (w : World) (h1 : Sol w a n f a' n' g) (hm : n ≤ 9223372036854775807 ∧ n' ≤ 9223372036854775807) (hi : I64 m) (h5 : Tbl w am nm M) (hnm : nm ≤ 9223372036854775807) :
    Calls Tryz.prog 22 #[sAgg a n c a' n' c', .int .i64 m, .slice am nm cm] w (RetO w (iswF f g m M).1 (iswF f g m M).2) := by
  obtain ⟨hm1, hm2⟩ := hm
  have hA := Loc.new w rfl #[.slice a n c, .slice a' n' c'] 26
  have hfl := h1.f.len
  obtain ⟨r, hr⟩ : ∃ r : Int, (if isSol f g then (if isMx n m M then 0 else 2) else 1) = r := ⟨_, rfl⟩
  have HCK := Lib.hid (fun w (h1 : Tbl w a n f) (h2 : Tbl w a' n' g) (h5 : Tbl w am nm M) => l18Code_any a n c a' n' c' f g m am nm cm M w h1 h2 hm1 hm2 h5 hnm r hr)
  by_cases hz : r = 0
  · have hz2 : isSol f g = true ∧ isMx n m M = true := by
      by_cases q1 : isSol f g = true
      · rw [if_pos q1] at hr
        by_cases q2 : isMx n m M = true
        · exact ⟨q1, q2⟩
        · rw [if_neg q2] at hr; omega
      · rw [if_neg q1] at hr; omega
    subst hz
    obtain ⟨q1, q2⟩ := hz2
    have hq : iswF f g m M = (decide (wtFlt n f g M m = []), 0) := by unfold iswF; rw [if_pos q1, ← hfl, if_pos q2]
    rw [hq]
    obtain ⟨hn1, hn12, sf, sg⟩ := isSol_sq q1
    rw [← hfl] at hn12
    obtain ⟨hmm, hM⟩ := isMx_sq q2
    have hl2 : n' = n := by rw [h1.s.len]; have := sg.len; omega
    have hl3 : nm = n := by rw [h5.len]; exact hM.1
    subst hl2 hl3
    have H1 := Lib.hid q1; have HM := Lib.hid hM; have HMM := Lib.hid hmm
    clear hr q1 q2 hq sf sg hM hmm hfl
    go_enter Tryz.func22, Tryz.ntmps22
    go_wp2_with fail
    refine (HCK.out _ (h1.f.alloc _) (h1.s.alloc _) (h5.alloc _)).mono ?_
    rintro e w1 ⟨rfl, hb1⟩
    have lA := (hA.below hb1 (by simp)).two
    go_wp2_with fail
    refine (l18Fault_any _ _ _ _ _ f g m _ _ M _ ((h1.f.alloc _).below hb1) ((h1.s.alloc _).below hb1) H1.out HMM.out HM.out ((h5.alloc _).below hb1)).mono ?_
    rintro e w2 ⟨af, kf, cf, rfl, hof, hb2⟩
    have hkl := hof.len
    by_cases hk0 : kf = 0
    · have HL : Hid (decide (wtFlt nm f g M m = []) = true) := Lib.hid (decide_eq_true (List.eq_nil_of_length_eq_zero (by omega)))
      subst hk0
      clear hkl hof
      go_wp2
      go_ret2
      exact ⟨by rw [HL.out]; rfl, below_th (below_alth (Below.refl _ _) hb1) hb2⟩
    · have HL : Hid (decide (wtFlt nm f g M m = []) = false) := Lib.hid (decide_eq_false (fun h => by rw [h] at hkl; exact hk0 hkl))
      have hb0 : ((kf : Int) == 0) = false := by simp; omega
      clear hkl hof hk0
      go_wp2
      go_ret2
      exact ⟨by rw [HL.out]; rfl, below_th (below_alth (Below.refl _ _) hb1) hb2⟩
  · have hq : iswF f g m M = (false, r) := by
      unfold iswF
      rw [← hfl, ← hr]
      by_cases q1 : isSol f g = true
      · rw [if_pos q1, if_pos q1]
        by_cases q2 : isMx n m M = true
        · rw [if_pos q1, if_pos q2] at hr; exact absurd hr.symm hz
        · rw [if_neg q2, if_neg q2]
      · rw [if_neg q1, if_neg q1]
    rw [hq]
    have hb : (r != 0) = true := by simpa using hz
    clear hr hq hz hfl
    go_enter Tryz.func22, Tryz.ntmps22
    go_wp2_with fail
    refine (HCK.out _ (h1.f.alloc _) (h1.s.alloc _) (h5.alloc _)).mono ?_
    rintro e w1 ⟨rfl, hb1⟩
    go_wp2
    go_ret2
    exact ⟨rfl, below_alth (Below.refl _ _) hb1⟩
end Go.Proofs.YtpdgpgbgakinlaaGreat

namespace Go.Proofs.YtpdgpgbgakinlaaGreat
set_option maxRecDepth 100000
set_option linter.unusedVariables false
set_option linter.unusedSimpArgs false
open Go.RowKit
theorem TbS.one {w : World} {b : Nat} (hb : b = w.heap.size) {a : Option Addr} {n c : Nat} {t : List (List Int)} (h : Tbl w a n t) (hn : n ≤ 9223372036854775807) (ty : TypeId) : TbS (w.alloc (.cells #[.slice a n c] ty)) (some ⟨b, 0, none⟩) 1 [t] := by
  refine ⟨rfl, fun i hi => ?_⟩
  obtain rfl : i = 0 := by omega
  exact ⟨b, 0, a, n, c, rfl, by simp; omega, (Loc.new w hb _ _).cell 0 rfl, h.alloc _, hn⟩
theorem LstQ.fresh (w : World) {b : Nat} (hb : b = w.heap.size) (ty : TypeId) : LstQ (w.alloc (.cells #[] ty)) (some ⟨b, 0, none⟩) 0 [] [] := ⟨HdR.nil _, rfl, fun i h => absurd h (by omega)⟩
theorem OwnRk.fresh (w : World) {b : Nat} (hb : b = w.heap.size) : OwnRk (w.alloc (.cells #[] 45)) w.heap.size (some ⟨b, 0, none⟩) 0 0 [] [] :=
  ⟨rfl, rfl, ownsRowRk_mk rfl (by omega) (Loc.new w hb _ _) (Nat.le_refl _) (by unfold maxLen; omega) rfl rfl, fun i h => absurd h (by omega), fun i h => absurd h (by omega), fun i j h => absurd h (by omega)⟩
end Go.Proofs.YtpdgpgbgakinlaaGreat

namespace Go.Proofs.YtpdgpgbgakinlaaGreat
set_option maxRecDepth 100000
set_option linter.unusedVariables false
set_option linter.unusedSimpArgs false
theorem Cmp.le_lt {α : Type} {c : α → α → Int} (h : Cmp c) {x y z : α} (h1 : ¬ c y x < 0) (h2 : c y z < 0) : c x z < 0 := by
  by_cases e : c x y = 0
  · rw [(h.eq _ _).1 e]; exact h2
  · exact h.trans x y z (by have := h.anti x y; omega) h2
end Go.Proofs.YtpdgpgbgakinlaaGreat

namespace Go.Proofs.YtpdgpgbgakinlaaGreat
set_option maxRecDepth 100000
set_option linter.unusedVariables false
set_option linter.unusedSimpArgs false
structure Wrk {α γ : Type} (G : List γ) (act : γ → α → α) (cp : γ → γ → γ) (S : α → Prop) : Prop where
  nd : G.Nodup
  st : ∀ t, S t → ∀ p, p ∈ G → S (act p t)
  cm : ∀ p q, p ∈ G → q ∈ G → cp p q ∈ G
  ac : ∀ p q, p ∈ G → q ∈ G → ∀ t, S t → act q (act p t) = act (cp p q) t
  un : ∃ e, e ∈ G ∧ ∀ t, S t → act e t = t
  bk : ∀ p, p ∈ G → ∃ r, r ∈ G ∧ ∀ t, S t → act r (act p t) = t
  ij : ∀ p p' q, p ∈ G → p' ∈ G → q ∈ G → cp p q = cp p' q → p = p'
section
variable {α γ : Type} {G : List γ} {act : γ → α → α} {cp : γ → γ → γ} {S : α → Prop} {c : α → α → Int}
def minL (c : α → α → Int) (b : α) (l : List α) : α := l.foldl (fun b x => if c x b < 0 then x else b) b
theorem minL_spec (hc : Cmp c) : ∀ (l : List α) (b : α), (minL c b l = b ∨ minL c b l ∈ l) ∧ ¬ c b (minL c b l) < 0 ∧ ∀ x, x ∈ l → ¬ c x (minL c b l) < 0 := by
  intro l
  induction l with
  | nil =>
    intro b
    refine ⟨.inl rfl, ?_, fun x h => by simp at h⟩
    show ¬ c b b < 0
    rw [hc.refl]; omega
  | cons x l ih =>
    intro b
    have e : minL c b (x :: l) = minL c (if c x b < 0 then x else b) l := rfl
    rw [e]
    by_cases h : c x b < 0
    · rw [if_pos h]
      obtain ⟨h1, h2, h3⟩ := ih x
      refine ⟨?_, ?_, ?_⟩
      · rcases h1 with h1 | h1
        · exact .inr (by rw [h1]; simp)
        · exact .inr (by simp [h1])
      · intro h4
        exact h2 (hc.trans _ _ _ h h4)
      · intro y hy
        rcases List.mem_cons.1 hy with r | r
        · rw [r]; exact h2
        · exact h3 y r
    · rw [if_neg h]
      obtain ⟨h1, h2, h3⟩ := ih b
      refine ⟨?_, h2, ?_⟩
      · rcases h1 with h1 | h1
        · exact .inl h1
        · exact .inr (by simp [h1])
      · intro y hy
        rcases List.mem_cons.1 hy with r | r
        · rw [r]; intro h4
          exact h2 (hc.le_lt h h4)
        · exact h3 y r
def lfm (c : α → α → Int) (act : γ → α → α) (G : List γ) (t : α) : α := minL c t (G.map fun p => act p t)
theorem lfm_at (hc : Cmp c) (hw : Wrk G act cp S) {t : α} (h : S t) : ∃ p, p ∈ G ∧ lfm c act G t = act p t := by
  rcases (minL_spec hc (G.map fun p => act p t) t).1 with e | e
  · obtain ⟨u, hu, hu2⟩ := hw.un
    exact ⟨u, hu, by unfold lfm; rw [e, hu2 t h]⟩
  · obtain ⟨p, hp, e⟩ := List.mem_map.1 e
    exact ⟨p, hp, e.symm⟩
theorem lfm_le (hc : Cmp c) {t : α} {p : γ} (hp : p ∈ G) : ¬ c (act p t) (lfm c act G t) < 0 :=
  (minL_spec hc (G.map fun p => act p t) t).2.2 _ (List.mem_map.2 ⟨p, hp, rfl⟩)
theorem lfm_act (hc : Cmp c) (hw : Wrk G act cp S) {t : α} (h : S t) {p : γ} (hp : p ∈ G) : lfm c act G (act p t) = lfm c act G t := by
  obtain ⟨q, hq, e1⟩ := lfm_at hc hw (hw.st t h p hp)
  obtain ⟨r, hr, e2⟩ := lfm_at hc hw h
  have a1 : ¬ c (lfm c act G (act p t)) (lfm c act G t) < 0 := by
    rw [e1, hw.ac p q hp hq t h]
    exact lfm_le hc (hw.cm p q hp hq)
  have a2 : ¬ c (lfm c act G t) (lfm c act G (act p t)) < 0 := by
    obtain ⟨i, hi, hb⟩ := hw.bk p hp
    have : act r t = act (cp i r) (act p t) := by
      rw [← hw.ac i r hi hr _ (hw.st t h p hp), hb t h]
    rw [e2, this]
    exact lfm_le hc (hw.cm i r hi hr)
  have := hc.anti (lfm c act G (act p t)) (lfm c act G t)
  exact (hc.eq _ _).1 (by omega)
theorem lfm_lfm (hc : Cmp c) (hw : Wrk G act cp S) {t : α} (h : S t) : lfm c act G (lfm c act G t) = lfm c act G t := by
  obtain ⟨p, hp, e⟩ := lfm_at hc hw h
  conv => lhs; rw [e]
  exact lfm_act hc hw h hp
theorem lfm_one (hc : Cmp c) (hw : Wrk G act cp S) {t s : α} (h : S t) (hs : S s) (e : lfm c act G t = lfm c act G s) : ∃ p, p ∈ G ∧ act p t = s := by
  obtain ⟨p, hp, e1⟩ := lfm_at hc hw h
  obtain ⟨q, hq, e2⟩ := lfm_at hc hw hs
  obtain ⟨r, hr, hb⟩ := hw.bk q hq
  refine ⟨cp p r, hw.cm p r hp hr, ?_⟩
  rw [← hw.ac p r hp hr t h, ← e1, e, e2, hb s hs]
/-! ### counting -/
theorem sum_zero {β : Type} : ∀ R : List β, (R.map fun _ => 0).sum = 0 := by
  intro R
  induction R with
  | nil => rfl
  | cons a R ih => rw [List.map_cons, List.sum_cons, ih]
theorem sub_perm {β : Type} : ∀ {l m : List β}, l.Nodup → (∀ x, x ∈ l → x ∈ m) → m.length ≤ l.length → l.Perm m := by
  intro l
  induction l with
  | nil => intro m _ _ h; rw [List.eq_nil_of_length_eq_zero (Nat.le_zero.1 h)]
  | cons a l ih =>
    intro m hn hs hl
    rw [List.nodup_cons] at hn
    obtain ⟨s, t, rfl⟩ := List.append_of_mem (hs a (by simp))
    refine List.Perm.trans ?_ List.perm_middle.symm
    refine List.Perm.cons a (ih hn.2 (fun x hx => ?_) (by simp at hl ⊢; omega))
    have := hs x (by simp [hx])
    rw [List.mem_append, List.mem_cons] at this
    rw [List.mem_append]
    rcases this with h | h | h
    · exact .inl h
    · exact absurd (h ▸ hx) hn.1
    · exact .inr h
theorem count_one {β : Type} [DecidableEq β] : ∀ (R : List β) (b : β), R.Nodup → b ∈ R → (R.map fun r => if b = r then 1 else 0).sum = 1 := by
  intro R
  induction R with
  | nil => intro b _ h; simp at h
  | cons a R ih =>
    intro b hn hb
    rw [List.nodup_cons] at hn
    rw [List.map_cons, List.sum_cons]
    by_cases e : b = a
    · rw [if_pos e]
      have : (R.map fun r => if b = r then 1 else 0).sum = 0 := by
        have hz : ∀ r ∈ R, (if b = r then 1 else 0) = 0 := fun r hr => if_neg (fun e2 => hn.1 (by rw [← e, e2]; exact hr))
        rw [List.map_congr_left hz, sum_zero]
      omega
    · rw [if_neg e, ih b hn.2 (by rcases List.mem_cons.1 hb with r | r; exact absurd r e; exact r)]
theorem sum_add {β : Type} (f g : β → Nat) : ∀ R : List β, (R.map fun r => f r + g r).sum = (R.map f).sum + (R.map g).sum := by
  intro R
  induction R with
  | nil => rfl
  | cons a R ih => simp only [List.map_cons, List.sum_cons, ih]; omega
theorem part_len {β : Type} [DecidableEq β] (f : α → β) {R : List β} (hR : R.Nodup) : ∀ l : List α, (∀ x, x ∈ l → f x ∈ R) → (R.map fun r => (l.filter fun x => decide (f x = r)).length).sum = l.length := by
  intro l
  induction l with
  | nil =>
    intro _
    simp only [List.filter_nil, List.length_nil]
    exact sum_zero R
  | cons x l ih =>
    intro h
    have e : ∀ r, ((x :: l).filter fun y => decide (f y = r)).length = (if f x = r then 1 else 0) + (l.filter fun y => decide (f y = r)).length := fun r => by
      rw [List.filter_cons]
      by_cases e : f x = r
      · rw [if_pos (by simpa using e), if_pos e, List.length_cons]; omega
      · rw [if_neg (by simpa using e), if_neg e]; omega
    rw [List.map_congr_left (fun r _ => e r), sum_add, count_one R (f x) hR (h x (by simp)), ih fun y hy => h y (by simp [hy]), List.length_cons]
    omega
theorem sum_const (k : Nat) : ∀ (l : List α) (f : α → Nat), (∀ x, x ∈ l → f x = k) → (l.map f).sum = l.length * k := by
  intro l
  induction l with
  | nil => intro f _; simp
  | cons x l ih =>
    intro f h
    rw [List.map_cons, List.sum_cons, ih f fun y hy => h y (by simp [hy]), h x (by simp), List.length_cons, Nat.succ_mul]
    omega
variable [DecidableEq α]
def kpN (act : γ → α → α) (G : List γ) (t : α) : Nat := (G.filter fun p => decide (act p t = t)).length
theorem filt_perm {l m : List γ} (h : l.Perm m) (P : γ → Bool) : (l.filter P).length = (m.filter P).length := (h.filter P).length_eq
theorem kp_at (hw : Wrk G act cp S) {t : α} (h : S t) {q : γ} (hq : q ∈ G) : (G.filter fun p => decide (act p t = act q t)).length = kpN act G t := by
  have hp : (G.map fun p => cp p q).Perm G := by
    have hnd : (G.map fun p => cp p q).Nodup := by
      rw [List.nodup_iff_pairwise_ne] at *
      rw [List.pairwise_map]
      have := hw.nd
      rw [List.nodup_iff_pairwise_ne] at this
      refine List.Pairwise.imp_of_mem ?_ this
      intro a b ha hb hne e
      exact hne (hw.ij a b q ha hb hq e)
    refine sub_perm hnd (fun x hx => ?_) (by simp)
    obtain ⟨p, hp, rfl⟩ := List.mem_map.1 hx
    exact hw.cm p q hp hq
  rw [← filt_perm hp, List.filter_map, List.length_map]
  unfold kpN
  congr 1
  refine List.filter_congr fun p hp => ?_
  show decide (act (cp p q) t = act q t) = decide (act p t = t)
  rw [← hw.ac p q hp hq t h]
  apply decide_eq_decide.2
  constructor
  · intro e
    obtain ⟨r, hr, hb⟩ := hw.bk q hq
    have := congrArg (act r) e
    rwa [hb _ (hw.st t h p hp), hb t h] at this
  · intro e; rw [e]
theorem kp_pos (hw : Wrk G act cp S) {t : α} (h : S t) : 1 ≤ kpN act G t := by
  obtain ⟨e, he, hu⟩ := hw.un
  have : e ∈ G.filter fun p => decide (act p t = t) := List.mem_filter.2 ⟨he, by simpa using hu t h⟩
  exact List.length_pos_of_mem this
theorem orbits (hc : Cmp c) (hw : Wrk G act cp S) {T : List α} (hT : T.Nodup) (hs : ∀ t, t ∈ T → S t) (hcl : ∀ t, t ∈ T → ∀ p, p ∈ G → act p t ∈ T) :
    ((T.filter fun t => decide (t = lfm c act G t)).map fun t => G.length / kpN act G t).sum = T.length := by
  have hR : (T.filter fun t => decide (t = lfm c act G t)).Nodup := hT.filter _
  have hin : ∀ t, t ∈ T → lfm c act G t ∈ T.filter fun t => decide (t = lfm c act G t) := fun t ht => by
    obtain ⟨p, hp, e⟩ := lfm_at hc hw (hs t ht)
    refine List.mem_filter.2 ⟨by rw [e]; exact hcl t ht p hp, ?_⟩
    rw [lfm_lfm hc hw (hs t ht)]; simp
  rw [← part_len (lfm c act G) hR T hin]
  congr 1
  refine List.map_congr_left fun r hr => ?_
  obtain ⟨hrT, hre⟩ := List.mem_filter.1 hr
  have hre : r = lfm c act G r := by simpa using hre
  have hsr := hs r hrT
  have hO : (T.filter fun t => decide (lfm c act G t = r)).Nodup := hT.filter _
  have h1 := part_len (fun p => act p r) hO G (fun p hp => List.mem_filter.2 ⟨hcl r hrT p hp, by
    have := lfm_act hc hw hsr hp
    simp [this, ← hre]⟩)
  rw [sum_const (kpN act G r)] at h1
  · rw [← h1]
    exact Nat.mul_div_cancel _ (kp_pos hw hsr)
  · intro t ht
    obtain ⟨htT, hte⟩ := List.mem_filter.1 ht
    have hte : lfm c act G t = r := by simpa using hte
    obtain ⟨q, hq, e⟩ := lfm_one hc hw hsr (hs t htT) (by rw [← hre, hte])
    rw [← e]
    exact kp_at hw hsr hq
end
end Go.Proofs.YtpdgpgbgakinlaaGreat

namespace Go.Proofs.YtpdgpgbgakinlaaGreat
set_option maxRecDepth 100000
set_option linter.unusedVariables false
set_option linter.unusedSimpArgs false
open Go.RowKit
theorem nodupG_le {n : Nat} {ys : List Int} (h : ys.Nodup) (hx : Less n ys) : ys.length ≤ n := by
  by_cases c : ys.length ≤ n
  · exact c
  have hp := sub_perm (m := (List.range n).map fun k : Nat => (k : Int)) h (fun x hm => by
    obtain ⟨i, hi, rfl⟩ := List.getElem_of_mem hm
    obtain ⟨k, hk, e⟩ := hx i hi
    rw [List.getD_eq_getElem?_getD, List.getElem?_eq_getElem hi, Option.getD_some] at e
    rw [e]
    exact List.mem_map.2 ⟨k, List.mem_range.2 hk, rfl⟩) (by simp; omega)
  have := hp.length_eq
  simp at this; omega
theorem less_snocG {n : Nat} {l : List Int} (h : Less n l) {q : Nat} (hq : q < n) : Less n (l ++ [(q : Int)]) := fun i hi => by
  rw [List.length_append, List.length_singleton] at hi
  by_cases e : i < l.length
  · obtain ⟨k, hk, e2⟩ := h i e
    exact ⟨k, hk, by rw [List.getD_eq_getElem?_getD, List.getElem?_append_left e, ← List.getD_eq_getElem?_getD]; exact e2⟩
  · obtain rfl : i = l.length := by omega
    exact ⟨q, hq, by simp [List.getD_eq_getElem?_getD]⟩
def OrbG (n : Nat) (x : Nat) (ys : List Int) : Prop := ys.Nodup ∧ Less n ys ∧ (x : Int) ∈ ys
theorem OrbG.snoc {n x : Nat} {ys : List Int} (h : OrbG n x ys) {q : Nat} (hq : q < n) (hn : (q : Int) ∉ ys) : OrbG n x (ys ++ [(q : Int)]) :=
  ⟨List.nodup_append.2 ⟨h.1, by simp, fun a ha b hb e => by rw [List.mem_singleton] at hb; subst hb; subst e; exact hn ha⟩, less_snocG h.2.1 hq, List.mem_append_left _ h.2.2⟩
theorem OrbG.le {n x : Nat} {ys : List Int} (h : OrbG n x ys) : ys.length ≤ n := nodupG_le h.1 h.2.1
def RwsN (n m : Nat) (t : List (List Int)) : Prop := ∀ k, k < m → LsN n (t.getD k [])
set_option maxHeartbeats 8000000 in
theorem l01OrbitG_any (n m x : Nat) (t : List (List Int)) (ta : Option Addr) (tc : Nat) (w : World) (h : Tbl w ta m t) (ht : RwsN n m t) (hx : x < n) (hn : n ≤ 100) (hm : m ≤ 1000) :
    Calls Tryz.prog 182 #[.slice ta m tc, .int .i64 x] w fun e w' => ∃ a on c ys, e = .returned (.slice a on c) ∧ OrbG n x ys ∧ Own w' w.heap.size a on c ys ∧ Below w.heap.size w w' := by
  have HT := Lib.hid ht
  clear ht
  have HB : Below w.heap.size w (w.alloc (.cells #[.int .i64 x] 2)) := (Below.refl _ _).alloc (Nat.le_refl _) _
  have HO : Own (w.alloc (.cells #[.int .i64 x] 2)) w.heap.size (some ⟨w.heap.size, 0, none⟩) 1 1 [(x : Int)] := Own.single w rfl x
  have H0 : Hid (OrbG n x [(x : Int)]) := Lib.hid ⟨by simp, fun i hi => ⟨x, hx, by have : i = 0 := by simpa using hi
                                                                                   subst this; rfl⟩, by simp⟩
  go_enter Tryz.func182, Tryz.ntmps182
  go_wp2
  go_loopw [5, 6] (fun q i wr => ∃ (k : Nat) (a : Option Addr) (on c : Nat) (ys : List Int), k ≤ on ∧ i = .int .i64 k ∧ q = .slice a on c ∧ Hid (OrbG n x ys) ∧ Own wr w.heap.size a on c ys ∧ Below w.heap.size w wr) (fun _ i _ => n - (intOf i).toNat)
  case atStart => exact ⟨0, _, 1, 1, _, by omega, rfl, rfl, H0, HO, HB⟩
  case round =>
    clear HB HO H0
    obtain ⟨k, a, on, c, ys, hk, rfl, rfl, HY, ho, hb⟩ := hrel
    have hle := HY.out.le
    have hlen := ho.len
    have hon : on ≤ n := by omega
    clear hle hlen
    by_cases hlt : k < on
    · go_wp2
      go_loopw [5, 7] (fun q j wr => ∃ (i : Nat) (a : Option Addr) (on c : Nat) (ys : List Int), i ≤ m ∧ k < on ∧ j = .int .i64 i ∧ q = .slice a on c ∧ Hid (OrbG n x ys) ∧ Own wr w.heap.size a on c ys ∧ Below w.heap.size w wr) (fun _ j _ => m - (intOf j).toNat)
      case atStart => exact ⟨0, a, on, c, ys, Nat.zero_le _, hlt, rfl, rfl, HY, ho, hb⟩
      case round =>
        clear HY ho hb hon hlt hk
        obtain ⟨i, a, on, c, ys, hi, hlt, rfl, rfl, HY, ho, hb⟩ := hrel
        have hle := HY.out.le
        have hlen := ho.len
        have hon : on ≤ n := by omega
        have HLEN := Lib.hid hlen
        clear hle hlen
        by_cases hit : i < m
        · obtain ⟨X, hX, eX⟩ := HY.out.2.1 k (by have := HLEN.out; omega)
          obtain ⟨tb, og, ai, ni, ci, rfl, g1, hri, hni⟩ := (h.below hb).at i hit
          have hLs := HT.out i hit
          obtain rfl : ni = n := by rw [hri.len]; exact hLs.1
          obtain ⟨Y, hY, eY⟩ := hLs.2 X (by rw [hLs.1]; exact hX)
          obtain ⟨pb, po, rfl, g0⟩ := hri.at X hX
          have g2 : wr.cell? ⟨pb, po + X, none⟩ = some (.int .i64 (Y : Int)) := by rw [← eY]; exact g0
          clear g0
          obtain ⟨gq, rfl⟩ := ho.headS (by omega)
          have g3 := ho.cells.2.1 k hlt
          rw [eX] at g3
          have hrow := ho.row
          have i1 : (0 : Int) ≤ (i : Int) := by omega
          have i2 : (i : Int) < (m : Int) := by omega
          have i3 : (0 : Int) ≤ (k : Int) := by omega
          have i4 : (k : Int) < (on : Int) := by omega
          have i5 : (0 : Int) ≤ (X : Int) := by omega
          have i6 : (X : Int) < (ni : Int) := by omega
          clear hLs eY eX hri
          by_cases hmem : (Y : Int) ∈ ys
          · have HQ : Hid (∀ q, Calls Tryz.prog 152 #[.slice (some ⟨gq, 0, none⟩) on c, .int .i64 Y] (wr.drewN q) fun e w' => e = .returned (.bool true) ∧ w' = wr.drewN q) := Lib.hid fun q => (l01Has_any _ _ _ ys Y _ (hrow.drewN q) (by omega)).mono fun e w' hh => ⟨by rw [hh.1, decide_eq_true hmem], hh.2.symm⟩
            have HM := Lib.hid hmem
            clear hmem hrow
            go_wp2
            go_quiet ((go_at_call 152; exact Calls.quiet_of_same (HQ.out _)))
            go_wp2
            go_roundw
            case rel => exact ⟨i + 1, _, _, _, ys, by omega, hlt, by go_num, rfl, HY, ho.drewN _, below_drewN hb _⟩
            case measure => simp [intOf]; omega
          · have HQ : Hid (∀ q, Calls Tryz.prog 152 #[.slice (some ⟨gq, 0, none⟩) on c, .int .i64 Y] (wr.drewN q) fun e w' => e = .returned (.bool false) ∧ w' = wr.drewN q) := Lib.hid fun q => (l01Has_any _ _ _ ys Y _ (hrow.drewN q) (by omega)).mono fun e w' hh => ⟨by rw [hh.1, decide_eq_false hmem], hh.2.symm⟩
            have HM := Lib.hid hmem
            clear hmem hrow
            go_wp2
            go_quiet ((go_at_call 152; exact Calls.quiet_of_same (HQ.out _)))
            generalize hwz : wr.drewN _ = wz
            have hoz : Own wz w.heap.size (some ⟨gq, 0, none⟩) on c ys := by rw [← hwz]; exact ho
            have hbz : Below w.heap.size w wz := by rw [← hwz]; exact below_drewN hb _
            have g1z : wz.cell? ⟨tb, og + i, none⟩ = some (.slice (some ⟨pb, po, none⟩) ni ci) := by rw [← hwz]; exact g1
            have g2z : wz.cell? ⟨pb, po + X, none⟩ = some (.int .i64 Y) := by rw [← hwz]; exact g2
            have g3z : wz.cell? ⟨gq, k, none⟩ = some (.int .i64 X) := by rw [← hwz]; exact g3
            have hzz := hbz.size
            clear hwz g1 g2 g3 ho hb
            go_wp2
            go_region_law (refine step_app1 rfl rfl hoz rfl rfl (by omega) hzz ?_; intro g' cc w' hO' hg' hs' hb')
            all_goals
              go_wp2
              go_roundw
              case rel => exact ⟨i + 1, _, _, _, _, by omega, by omega, by go_num, rfl, Lib.hid (HY.out.snoc hY HM.out), hO', hbz.trans hb'⟩
              case measure => simp [intOf]; omega
        · obtain rfl : m = i := by omega
          go_wp2
          go_roundw
          case rel => exact ⟨k + 1, a, on, c, ys, by omega, by go_num, rfl, HY, ho, hb⟩
          case measure => simp [intOf]; omega
    · obtain rfl : on = k := by omega
      go_wp2
      go_ret
      exact ⟨a, _, c, ys, rfl, HY.out, ho, hb⟩
/-! ### the numbers of the orbits -/
def LabG (n s : Nat) (L : List Int) : Prop := L.length = n ∧ ∀ i, i < n → -1 ≤ L.getD i 0 ∧ L.getD i 0 < s ∧ (i < s → 0 ≤ L.getD i 0)
theorem LabG.zero (n : Nat) : LabG n 0 (List.replicate n (-1)) := ⟨by simp, fun i hi => by
  have : (List.replicate n (-1 : Int)).getD i 0 = -1 := by rw [List.getD_eq_getElem?_getD, List.getElem?_replicate, if_pos hi]; rfl
  rw [this]; omega⟩
theorem getD_setG (L : List Int) {j i : Nat} (v : Int) (h : i < L.length) : (L.set j v).getD i 0 = if i = j then v else L.getD i 0 := by
  rw [List.getD_eq_getElem?_getD, List.getElem?_set]
  by_cases e : j = i
  · subst e; rw [if_pos rfl, if_pos rfl, if_pos h]; rfl
  · rw [if_neg e, if_neg (fun q => e q.symm), List.getD_eq_getElem?_getD]
set_option maxHeartbeats 8000000 in
theorem l01OrbitsG_any (n m : Nat) (t : List (List Int)) (ta : Option Addr) (tc : Nat) (w : World) (h : Tbl w ta m t) (ht : RwsN n m t) (hn : n ≤ 100) (hm : m ≤ 1000) :
    Calls Tryz.prog 163 #[.int .i64 n, .slice ta m tc] w fun e w' => ∃ a c L, e = .returned (.slice a n c) ∧ LabG n n L ∧ Own w' w.heap.size a n c L ∧ Below w.heap.size w w' := by
  have HT := Lib.hid ht
  clear ht
  go_enter Tryz.func163, Tryz.ntmps163
  go_wp2
  go_loopw [5, 6] (fun q i wr => ∃ (k : Nat) (a : Option Addr) (c : Nat), k ≤ n ∧ q = .slice a k c ∧ i = .int .i64 k ∧ Own wr w.heap.size a k c (List.replicate k (-1)) ∧ Below w.heap.size w wr) (fun _ i _ => n - (intOf i).toNat)
  case atStart => exact ⟨0, _, 0, Nat.zero_le _, rfl, rfl, Own.fresh w rfl, (Below.refl _ _).alloc (Nat.le_refl _) _⟩
  case round =>
    obtain ⟨k, a, c, hk, rfl, rfl, ho, hb⟩ := hrel
    by_cases hlt : k < n
    · have hzz := hb.size
      go_wp2_with (at_builtin; refine app1 rfl rfl ho rfl rfl (by omega) hzz ?_; intro g' c' w' hO' hg' hs' hb'; clear hg')
      go_roundw
      case rel => exact ⟨k + 1, _, _, by omega, rfl, by go_num, by rw [List.replicate_succ']; exact hO', hb.trans hb'⟩
      case measure => simp [intOf]; omega
    · obtain rfl : n = k := by omega
      have H0 := Lib.hid (LabG.zero n)
      go_wp2
      go_loopw [7, 8] (fun v i wr => ∃ (s N : Nat) (L : List Int), s ≤ n ∧ N ≤ s ∧ v = .int .i64 N ∧ i = .int .i64 s ∧ Hid (LabG n s L) ∧ Own wr w.heap.size a n c L ∧ Below w.heap.size w wr) (fun _ i _ => n - (intOf i).toNat)
      case atStart => exact ⟨0, 0, _, Nat.zero_le _, Nat.zero_le _, rfl, rfl, H0, ho, hb⟩
      case round =>
        clear ho hb H0
        obtain ⟨s, N, L, hs, hN, rfl, rfl, HL, ho, hb⟩ := hrel
        by_cases hlt : s < n
        · obtain ⟨ga, rfl⟩ := ho.headS (by omega)
          have hcs := ho.cells.2.1 s hlt
          have hLs := HL.out.2 s hlt
          obtain ⟨Z, hZ⟩ : ∃ Z, L.getD s 0 = Z := ⟨_, rfl⟩
          rw [hZ] at hcs hLs
          have HZ := Lib.hid hZ
          clear hZ
          by_cases hz : 0 ≤ Z
          · have hzb : decide (Z ≥ 0) = true := by simpa using hz
            have hzb' : decide (0 ≤ Z) = true := by simpa using hz
            have HN : Hid (LabG n (s + 1) L) := Lib.hid ⟨HL.out.1, fun i hi => by
              have := HL.out.2 i hi
              refine ⟨this.1, by omega, fun q => ?_⟩
              by_cases e : i = s
              · subst e; rw [HZ.out]; exact hz
              · exact this.2.2 (by omega)⟩
            go_wp2
            go_roundw
            case rel => exact ⟨s + 1, N, L, by omega, by omega, rfl, by go_num, HN, ho, hb⟩
            case measure => simp [intOf]; omega
          · have hzb : decide (Z ≥ 0) = false := by simpa using hz
            have hzb' : decide (0 ≤ Z) = false := by simpa using hz
            have hT := h.below hb
            go_wp2_with fail
            refine (l01OrbitG_any n m s t ta tc _ hT HT.out hlt hn hm).mono ?_
            rintro e w2 ⟨oa, on, oc, ys, rfl, hys, hO, hb2⟩
            have ho2 := ho.below hb2
            have hB2 := below_th hb hb2
            have hle := hys.le
            have hol := hO.len
            have hon : on ≤ n := by omega
            have HY := Lib.hid hys
            have HOL := Lib.hid hol
            have hlo2 := hO.lo
            have hga2 := ho.hi ga rfl
            have H1 : Hid (L.length = n ∧ (∀ i, i < n → -1 ≤ L.getD i 0 ∧ L.getD i 0 < (s + 1 : Nat) ∧ (i < s → 0 ≤ L.getD i 0)) ∧ ∀ q, q < 0 → 0 ≤ L.getD (ys.getD q 0).toNat 0) := Lib.hid ⟨HL.out.1, fun i hi => by have := HL.out.2 i hi; exact ⟨this.1, by omega, this.2.2⟩, fun q hq => absurd hq (by omega)⟩
            clear hys hle hol hT hcs hLs ho hb HL
            go_wp2
            go_loopw [10] (fun i wr => ∃ (j : Nat) (L : List Int), j ≤ on ∧ i = .int .i64 j ∧ Hid (L.length = n ∧ (∀ i, i < n → -1 ≤ L.getD i 0 ∧ L.getD i 0 < (s + 1 : Nat) ∧ (i < s → 0 ≤ L.getD i 0)) ∧ ∀ q, q < j → 0 ≤ L.getD (ys.getD q 0).toNat 0) ∧ Own wr w.heap.size (some ⟨ga, 0, none⟩) n c L ∧ Own wr (ga + 1) oa on oc ys ∧ Below w.heap.size w wr) (fun i _ => on - (intOf i).toNat)
            case atStart => exact ⟨0, L, Nat.zero_le _, rfl, H1, ho2, hO.mono (by omega), hB2⟩
            case round =>
              clear H1 ho2 hO hB2
              obtain ⟨j, L, hj, rfl, HL, ho, hO, hb⟩ := hrel
              by_cases hjt : j < on
              · obtain ⟨X, hX, eX⟩ := HY.out.2.1 j (by have := HOL.out; omega)
                obtain ⟨gb, rfl⟩ := hO.headS (by omega)
                have hgb := hO.lo gb rfl
                have d1 := hO.cells.2.1 j hjt
                rw [eX] at d1
                have c1 := ho.cells.2.1 X hX
                have f1 := ho.cells.2.2 X
                generalize L.getD X 0 = X0 at c1
                have i1 : (0 : Int) ≤ (j : Int) := by omega
                have i2 : (j : Int) < (on : Int) := by omega
                have i3 : (0 : Int) ≤ (X : Int) := by omega
                have i4 : (X : Int) < (n : Int) := by omega
                have hgw := ho.lo ga rfl
                have HEX := Lib.hid eX
                clear eX
                go_wp2
                go_roundw
                case rel =>
                  refine ⟨j + 1, _, by omega, by go_num, Lib.hid ⟨by rw [List.length_set]; exact HL.out.1, fun i hi => ?_, fun q hq => ?_⟩, ho.set X (N : Int), hO.setne (fun g e => by cases e; show gb ≠ ga; omega) _, hb.setCell hgw _⟩
                  · rw [getD_setG L _ (by rw [HL.out.1]; exact hi)]
                    by_cases e : i = X
                    · rw [if_pos e]; exact ⟨by omega, by omega, fun _ => by omega⟩
                    · rw [if_neg e]; exact HL.out.2.1 i hi
                  · have hqn : (ys.getD q 0).toNat < n := by
                      obtain ⟨Q, hQ, eQ⟩ := HY.out.2.1 q (by have := HOL.out; omega)
                      rw [eQ]; simpa using hQ
                    rw [getD_setG L _ (by rw [HL.out.1]; exact hqn)]
                    by_cases e : (ys.getD q 0).toNat = X
                    · rw [if_pos e]; omega
                    · rw [if_neg e]
                      have : q ≠ j := fun e2 => by subst e2; rw [HEX.out] at e; simp at e
                      exact HL.out.2.2 q (by omega)
                case measure => simp [intOf]; omega
              · obtain rfl : on = j := by omega
                have HN : Hid (LabG n (s + 1) L) := Lib.hid ⟨HL.out.1, fun i hi => by
                  have := HL.out.2.1 i hi
                  refine ⟨this.1, this.2.1, fun q => ?_⟩
                  by_cases e : i = s
                  · subst e
                    obtain ⟨r, hr, er⟩ := List.getElem_of_mem HY.out.2.2
                    have h3 := HL.out.2.2 r (by have := HOL.out; omega)
                    rw [show ys.getD r 0 = (i : Int) by rw [List.getD_eq_getElem?_getD, List.getElem?_eq_getElem hr, Option.getD_some, er]] at h3
                    simpa using h3
                  · exact this.2.2 (by omega)⟩
                have hwN : IntKind.i64.wrap ((N : Int) + 1) = (N : Int) + 1 := IntWalk.i64_in _ (by omega)
                go_wp2
                go_roundw
                case rel => exact ⟨s + 1, N + 1, L, by omega, by omega, by go_num, by go_num, HN, ho, hb⟩
                case measure => simp [intOf]; omega
        · obtain rfl : n = s := by omega
          go_wp2
          go_ret
          exact ⟨_, c, L, rfl, HL.out, ho, hb⟩
set_option maxHeartbeats 4000000 in
theorem l01RowsG_any (n : Nat) (a : Option Addr) (c : Nat) (t : List (List Int)) (w : World) (h : Tbl w a n t) (hn : n ≤ 1000) :
    ∃ B, Calls Tryz.prog 161 #[.slice a n c] w fun e w' => e = .returned (.bool B) ∧ w' = w := by
  by_cases hall : ∀ k, k < n → (rngB 1 12 ((t.getD k []).length : Int) && permOk (t.getD k [])) = true
  · refine ⟨true, ?_⟩
    have HA := Lib.hid hall
    clear hall
    go_enter Tryz.func161, Tryz.ntmps161
    go_wp2
    go_loop [3] (fun i => ∃ k : Nat, k ≤ n ∧ i = .int .i64 k) (fun i => n - (intOf i).toNat)
    case atStart => exact ⟨0, Nat.zero_le _, rfl⟩
    case round =>
      obtain ⟨k, hk, rfl⟩ := hrel
      by_cases hlt : k < n
      · obtain ⟨b, off, ax, nx, cx, rfl, g0, r1, l1⟩ := h.at k hlt
        have HC : Hid ((rngB 1 12 (nx : Int) && permOk (t.getD k [])) = true) := Lib.hid (by rw [r1.len]; exact HA.out k hlt)
        have i1 : (0 : Int) ≤ (k : Int) := by omega
        have i2 : (k : Int) < (n : Int) := by omega
        go_wp2_with fail
        refine (l01Perm_any _ _ _ _ _ r1 l1).mono ?_
        rintro e w1 ⟨rfl, rfl⟩
        rw [HC.out]
        go_wp2
        go_round
        case rel => exact ⟨k + 1, by omega, by go_num⟩
        case measure => simp [intOf]; omega
      · obtain rfl : n = k := by omega
        go_wp2
        go_ret
        exact ⟨rfl, rfl⟩
  · refine ⟨false, ?_⟩
    obtain ⟨k0, hk0, hp, hmin⟩ : ∃ k, k < n ∧ ¬ (rngB 1 12 ((t.getD k []).length : Int) && permOk (t.getD k [])) = true ∧ ∀ j, j < k → (rngB 1 12 ((t.getD j []).length : Int) && permOk (t.getD j [])) = true := by
      have key : ∀ m, m ≤ n → (∀ k, k < m → (rngB 1 12 ((t.getD k []).length : Int) && permOk (t.getD k [])) = true) ∨ ∃ k, k < n ∧ ¬ (rngB 1 12 ((t.getD k []).length : Int) && permOk (t.getD k [])) = true ∧ ∀ j, j < k → (rngB 1 12 ((t.getD j []).length : Int) && permOk (t.getD j [])) = true := by
        intro m
        induction m with
        | zero => intro _; exact .inl fun k hk => absurd hk (by omega)
        | succ m ih =>
          intro hm
          rcases ih (by omega) with h | h
          · by_cases c : (rngB 1 12 ((t.getD m []).length : Int) && permOk (t.getD m [])) = true
            · exact .inl fun k hk => by
                by_cases e : k = m
                · subst e; exact c
                · exact h k (by omega)
            · exact .inr ⟨m, by omega, c, h⟩
          · exact .inr h
      rcases key n (Nat.le_refl _) with h | h
      · exact absurd h hall
      · exact h
    have HM := Lib.hid hmin
    have HP : Hid ((rngB 1 12 ((t.getD k0 []).length : Int) && permOk (t.getD k0 [])) = false) := Lib.hid (by simpa using hp)
    clear hmin hp hall
    go_enter Tryz.func161, Tryz.ntmps161
    go_wp2
    go_loop [3] (fun i => ∃ k : Nat, k ≤ k0 ∧ i = .int .i64 k) (fun i => n - (intOf i).toNat)
    case atStart => exact ⟨0, Nat.zero_le _, rfl⟩
    case round =>
      obtain ⟨k, hk, rfl⟩ := hrel
      have hlt : k < n := by omega
      obtain ⟨b, off, ax, nx, cx, rfl, g0, r1, l1⟩ := h.at k hlt
      have i1 : (0 : Int) ≤ (k : Int) := by omega
      have i2 : (k : Int) < (n : Int) := by omega
      by_cases hlt2 : k < k0
      · have HC : Hid ((rngB 1 12 (nx : Int) && permOk (t.getD k [])) = true) := Lib.hid (by rw [r1.len]; exact HM.out k hlt2)
        go_wp2_with fail
        refine (l01Perm_any _ _ _ _ _ r1 l1).mono ?_
        rintro e w1 ⟨rfl, rfl⟩
        rw [HC.out]
        go_wp2
        go_round
        case rel => exact ⟨k + 1, by omega, by go_num⟩
        case measure => simp [intOf]; omega
      · obtain rfl : k = k0 := by omega
        have HC : Hid ((rngB 1 12 (nx : Int) && permOk (t.getD k [])) = false) := Lib.hid (by rw [r1.len]; exact HP.out)
        go_wp2_with fail
        refine (l01Perm_any _ _ _ _ _ r1 l1).mono ?_
        rintro e w1 ⟨rfl, rfl⟩
        rw [HC.out]
        go_wp2
        go_ret
        exact ⟨rfl, rfl⟩
end Go.Proofs.YtpdgpgbgakinlaaGreat
