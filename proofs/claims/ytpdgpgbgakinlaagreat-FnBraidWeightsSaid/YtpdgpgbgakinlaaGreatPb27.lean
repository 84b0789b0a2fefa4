/-
  Walks and plain laws of this seat, some texts in one.
  No condition but bounds on lengths.
-/
import Derived.Test.YtpdgpgbgakinlaaGreatPb26
import Derived.Maps.OwnOps
import Derived.Maps.Views
namespace Go.Proofs.YtpdgpgbgakinlaaGreat
set_option maxRecDepth 100000
set_option linter.unusedVariables false
set_option linter.unusedSimpArgs false
open Go.RowKit
theorem OwnT.front {w : World} {lo : Nat} {a : Option Addr} {n c : Nat} {vs : List SV} {xss : List (List Int)} (h : OwnT w lo a n c vs xss) (d : Nat) (hd : d ≤ n) : OwnT w lo a d c (vs.take d) (xss.take d) := by
  have hl := h.len
  have hv := h.vlen
  have hg : ∀ i, i < d → (vs.take d).getD i svO = vs.getD i svO := fun i hi => by simp [List.getD_eq_getElem?_getD, List.getElem?_take, hi]
  have hx : ∀ i, i < d → (xss.take d).getD i [] = xss.getD i [] := fun i hi => by simp [List.getD_eq_getElem?_getD, List.getElem?_take, hi]
  refine ⟨by rw [List.length_take]; omega, by rw [List.length_take]; omega, ?_, fun i hi => by rw [hg i hi, hx i hi]; exact h.row i (by omega), fun i hi => by rw [hg i hi]; exact h.ap i (by omega), fun i j hi hj hij => by rw [hg i hi, hg j hj]; exact h.pw i j (by omega) (by omega) hij⟩
  rcases h.block with ⟨h1, h2, h3⟩ | ⟨g, cur, h1, h2, h3, h4, h5, h6, h7⟩
  · subst h1 h2 h3
    have : vs = [] := List.eq_nil_of_length_eq_zero hv
    subst this
    obtain rfl : d = 0 := by omega
    exact World.ownsRow_nil _ _ _ _
  · subst h1
    refine ownsRow_mk (by rw [List.length_take]; omega) h2 h3 (by omega) h5 h6 ?_
    rw [List.map_take, ← h7, List.take_take]
    congr 1; omega
theorem OwnT.swapIn {w w' : World} {lo lo' g n c : Nat} {vs : List SV} {xss : List (List Int)} (h : OwnT w lo (some ⟨g, 0, none⟩) n c vs xss) {f d : Nat} (hf : f < n) (hd : d < n) {v : SV} {ys : List Int}
    (hb : Below w.heap.size (w.setCell ⟨g, f, none⟩ (sl (vs.getD d svO))) w') (ho : Own w' lo' v.1 v.2.1 v.2.2 ys) (hlo : w.heap.size ≤ lo') (hlo2 : lo ≤ w.heap.size) :
    OwnT (w'.setCell ⟨g, d, none⟩ (sl v)) lo (some ⟨g, 0, none⟩) n c ((vs.set f (vs.getD d svO)).set d v) ((xss.set f (xss.getD d [])).set d ys) := by
  have hl := h.len
  have hv := h.vlen
  have hgs : g < w.heap.size := h.high g rfl
  have hgv : ∀ j, j < n → ∀ q, (vs.getD j svO).1 = some ⟨q, 0, none⟩ → q ≠ g ∧ q < w.heap.size := fun j hj q hq => ⟨fun e => by subst e; exact h.ap j hj q rfl hq, (h.row j hj).hi _ hq⟩
  have hvn : ∀ q, v.1 = some ⟨q, 0, none⟩ → w.heap.size ≤ q := fun q hq => Nat.le_trans hlo (ho.lo q hq)
  have hkeep : ∀ j, j < n → Own (w'.setCell ⟨g, d, none⟩ (sl v)) lo (vs.getD j svO).1 (vs.getD j svO).2.1 (vs.getD j svO).2.2 (xss.getD j []) := fun j hj => by
    refine (h.row j hj).keep fun q hq hlt => ?_
    have hne := (hgv j hj q hq).1
    rw [Below.heap_setCell _ _ _ _ (show q ≠ g from hne)]
    rw [hb.block q hlt, Below.heap_setCell _ _ _ _ (show q ≠ g from hne)]
  have hnew : Own (w'.setCell ⟨g, d, none⟩ (sl v)) lo v.1 v.2.1 v.2.2 ys := (ho.setne (fun q hq (e : q = g) => by have := hvn q hq; omega) _).mono (by omega)
  have hvs : ∀ j, j < n → ((vs.set f (vs.getD d svO)).set d v).getD j svO = if j = d then v else if j = f then vs.getD d svO else vs.getD j svO := fun j hj => by
    rw [getD_set' _ _ _ _ _ (by rw [List.length_set]; omega), getD_set' _ _ _ _ _ (by omega)]
  have hxs : ∀ j, j < n → ((xss.set f (xss.getD d [])).set d ys).getD j [] = if j = d then ys else if j = f then xss.getD d [] else xss.getD j [] := fun j hj => by
    rw [getD_set' _ _ _ _ _ (by rw [List.length_set]; omega), getD_set' _ _ _ _ _ (by omega)]
  refine ⟨by simp [hl], by simp [hv], ?_, fun j hj => ?_, fun j hj => ?_, fun j k hj hk hjk => ?_⟩
  · rcases h.block with ⟨h1, h2, h3⟩ | ⟨g', cur, e1, e2, e3, e4, e5, e6, e7⟩
    · cases h1
    · cases e1
      have l1 := e3.set f (sl (vs.getD d svO))
      have l2 : Loc w' g _ _ := l1.below hb hgs
      have l3 := l2.set d (sl v)
      refine ownsRow_mk (by simp [hv]) e2 l3 e4 e5 (by simpa using e6) ?_
      rw [Array.toList_setIfInBounds, Array.toList_setIfInBounds, List.take_set, List.take_set, e7, List.map_set, List.map_set]
  · rw [hvs j hj, hxs j hj]
    by_cases e : j = d
    · rw [if_pos e, if_pos e]; exact hnew
    · rw [if_neg e, if_neg e]
      by_cases e2 : j = f
      · rw [if_pos e2, if_pos e2]; exact hkeep d hd
      · rw [if_neg e2, if_neg e2]; exact hkeep j hj
  · rw [hvs j hj]
    by_cases e : j = d
    · rw [if_pos e]; intro q hq hv; cases hq; have := hvn _ hv; omega
    · rw [if_neg e]
      by_cases e2 : j = f
      · rw [if_pos e2]; exact h.ap d hd
      · rw [if_neg e2]; exact h.ap j hj
  · rw [hvs j hj, hvs k hk]
    have hnv : ∀ i, i < n → Apart v.1 (vs.getD i svO).1 := fun i hi q h1 h2 => by have := hvn q h1; have := (hgv i hi q h2).2; omega
    by_cases e : j = d
    · rw [if_pos e, if_neg (by omega)]
      by_cases e2 : k = f
      · rw [if_pos e2]; exact hnv d hd
      · rw [if_neg e2]; exact hnv k hk
    · rw [if_neg e]
      by_cases e3 : k = d
      · rw [if_pos e3]
        by_cases e2 : j = f
        · rw [if_pos e2]; exact (hnv d hd).symm
        · rw [if_neg e2]; exact (hnv j hj).symm
      · rw [if_neg e3]
        by_cases e2 : j = f
        · rw [if_pos e2, if_neg (by omega)]; exact h.pw d k hd hk (by omega)
        · rw [if_neg e2]
          by_cases e4 : k = f
          · rw [if_pos e4]; exact h.pw j d hj hd (by omega)
          · rw [if_neg e4]; exact h.pw j k hj hk hjk
/-! ### the elimination, as the reference goes -/
theorem fnd_miss {k : Nat} {P Q : List (List Int)} (h : ∀ j, P.length ≤ j → j < (P ++ Q).length → gv ((P ++ Q).getD j []) k = 0) : fndL k Q = Q.length := by
  refine List.findIdx_eq_length.2 fun r hr => ?_
  obtain ⟨i, hi, rfl⟩ := List.mem_iff_getElem.1 hr
  have := h (P.length + i) (by omega) (by rw [List.length_append]; omega)
  rw [List.getD_eq_getElem?_getD, List.getElem?_append_right (by omega), Nat.add_sub_cancel_left, List.getElem?_eq_getElem hi, Option.getD_some] at this
  simpa using this
theorem app_right {P Q : List (List Int)} {f : Nat} (h : P.length ≤ f) : (P ++ Q).getD f [] = Q.getD (f - P.length) [] := by
  rw [List.getD_eq_getElem?_getD, List.getElem?_append_right h, ← List.getD_eq_getElem?_getD]
theorem fnd_hit {k f : Nat} {P Q : List (List Int)} (hf : P.length ≤ f) (hfn : f < (P ++ Q).length) (h : ∀ j, P.length ≤ j → j < f → gv ((P ++ Q).getD j []) k = 0) (h1 : gv ((P ++ Q).getD f []) k ≠ 0) : fndL k Q = f - P.length := by
  rw [List.length_append] at hfn
  have hlt : f - P.length < Q.length := by omega
  rw [app_right hf, List.getD_eq_getElem?_getD, List.getElem?_eq_getElem hlt, Option.getD_some] at h1
  unfold fndL
  rw [List.findIdx_eq hlt]
  refine ⟨by simpa using h1, fun j hj => ?_⟩
  have := h (P.length + j) (by omega) (by omega)
  rw [app_right (by omega), Nat.add_sub_cancel_left, List.getD_eq_getElem?_getD, List.getElem?_eq_getElem (by omega), Option.getD_some] at this
  simpa using this
def echK (p : Int) (inv : Int → Int) (N : Nat) (rows : List (List Int)) (k : Nat) : List (List Int) × List (List Int) := (List.range k).foldl (echS p inv N) ([], rows)
theorem echK_succ (p : Int) (inv : Int → Int) (N : Nat) (rows : List (List Int)) (k : Nat) : echK p inv N rows (k + 1) = echS p inv N (echK p inv N rows k) k := by
  unfold echK; rw [List.range_succ, List.foldl_append, List.foldl_cons, List.foldl_nil]
def clrK (p : Int) (k d : Nat) (T : List Int) (S : List (List Int)) (i : Nat) : List (List Int) := (List.range S.length).map fun j => if j < i ∧ j ≠ d then clrL p k T (S.getD j []) else S.getD j []
theorem getD_map_range {n : Nat} (f : Nat → List Int) {j : Nat} (h : j < n) : ((List.range n).map f).getD j [] = f j := by
  rw [List.getD_eq_getElem?_getD, List.getElem?_eq_getElem (by simpa using h)]; simp
theorem lists_ext {A B : List (List Int)} (hl : A.length = B.length) (h : ∀ i, i < A.length → A.getD i [] = B.getD i []) : A = B := by
  refine List.ext_getElem hl fun i h1 h2 => ?_
  have := h i h1
  simpa [List.getD_eq_getElem?_getD, h1, h2] using this
theorem clrK_len (p : Int) (k d : Nat) (T : List Int) (S : List (List Int)) (i : Nat) : (clrK p k d T S i).length = S.length := by simp [clrK]
theorem clrK_get {p : Int} {k d : Nat} {T : List Int} {S : List (List Int)} {i j : Nat} (h : j < S.length) : (clrK p k d T S i).getD j [] = if j < i ∧ j ≠ d then clrL p k T (S.getD j []) else S.getD j [] := getD_map_range _ h
theorem clrK_zero (p : Int) (k d : Nat) (T : List Int) (S : List (List Int)) : clrK p k d T S 0 = S := lists_ext (clrK_len _ _ _ _ _ _) fun i hi => by
  rw [clrK_len] at hi; rw [clrK_get hi, if_neg (by omega)]
theorem clrK_at {p : Int} {k d : Nat} {T : List Int} {S : List (List Int)} {i : Nat} (h : i < S.length) : (clrK p k d T S i).getD i [] = S.getD i [] := by rw [clrK_get h, if_neg (by omega)]
theorem clrK_skip {p : Int} {k d : Nat} {T : List Int} {S : List (List Int)} {i : Nat} (h : i < S.length) (e : i = d ∨ gv (S.getD i []) k = 0) : clrK p k d T S (i + 1) = clrK p k d T S i := lists_ext (by rw [clrK_len, clrK_len]) fun j hj => by
  rw [clrK_len] at hj
  rw [clrK_get hj, clrK_get hj]
  by_cases q : j = i
  · subst q
    rw [if_neg (show ¬ (j < j ∧ j ≠ d) by omega)]
    by_cases c : j = d
    · rw [if_neg (by omega)]
    · rw [if_pos (by omega)]
      unfold clrL
      rw [if_pos (by rcases e with e | e; exact absurd e c; exact e)]
  · by_cases c : j < i ∧ j ≠ d
    · rw [if_pos c, if_pos (by omega)]
    · rw [if_neg c, if_neg (by omega)]
theorem clrK_do {p : Int} {k d : Nat} {T : List Int} {S : List (List Int)} {i : Nat} (h : i < S.length) (e : i ≠ d) (hz : gv (S.getD i []) k ≠ 0) : (clrK p k d T S i).set i (addL p (p - gv (S.getD i []) k) (S.getD i []) T) = clrK p k d T S (i + 1) := lists_ext (by simp [clrK_len]) fun j hj => by
  rw [List.length_set, clrK_len] at hj
  rw [getD_set' _ _ _ _ _ (by rw [clrK_len]; exact hj), clrK_get hj, clrK_get hj]
  by_cases q : j = i
  · subst q
    rw [if_pos rfl, if_pos (by omega)]
    unfold clrL
    rw [if_neg hz]
  · rw [if_neg q]
    by_cases c : j < i ∧ j ≠ d
    · rw [if_pos c, if_pos (by omega)]
    · rw [if_neg c, if_neg (by omega)]
theorem clrK_end {p : Int} {k : Nat} {T : List Int} {P R : List (List Int)} : clrK p k P.length T (P ++ T :: R) (P ++ T :: R).length = P.map (clrL p k T) ++ T :: R.map (clrL p k T) := lists_ext (by rw [clrK_len]; simp) fun j hj => by
  rw [clrK_len] at hj
  rw [clrK_get hj]
  by_cases c : j < P.length
  · rw [if_pos (by omega)]
    rw [List.getD_eq_getElem?_getD, List.getElem?_append_left c, List.getD_eq_getElem?_getD, List.getElem?_append_left (by simpa using c), List.getElem?_map, List.getElem?_eq_getElem c]; rfl
  · by_cases e : j = P.length
    · subst e
      rw [if_neg (by omega), app_right (Nat.le_refl _), Nat.sub_self]
      rw [List.getD_eq_getElem?_getD (l := P.map _ ++ _), List.getElem?_append_right (by simp)]
      simp
    · rw [if_pos (by omega), app_right (by omega), List.getD_eq_getElem?_getD (l := P.map _ ++ _), List.getElem?_append_right (by simp; omega)]
      obtain ⟨q, hq⟩ : ∃ q, j - P.length = q + 1 := ⟨j - P.length - 1, by omega⟩
      have hq2 : q < R.length := by rw [List.length_append, List.length_cons] at hj; omega
      rw [List.length_map, hq, List.getElem?_cons_succ, List.getD_cons_succ, List.getElem?_map, List.getD_eq_getElem?_getD, List.getElem?_eq_getElem hq2]; rfl
theorem set_swap {P Q : List (List Int)} {f : Nat} (hf : P.length ≤ f) (hfn : f < (P ++ Q).length) (T : List Int) : (((P ++ Q).set f ((P ++ Q).getD P.length [])).set P.length T) = P ++ T :: (Q.set (f - P.length) (Q.getD 0 [])).drop 1 := by
  rw [List.length_append] at hfn
  rw [app_right (Nat.le_refl _), Nat.sub_self, List.set_append_right _ _ hf, List.set_append_right _ _ (Nat.le_refl _), Nat.sub_self]
  congr 1
  cases Q with
  | nil => simp at hfn; omega
  | cons a Q =>
    cases e : f - P.length with
    | zero => simp
    | succ q => simp
end Go.Proofs.YtpdgpgbgakinlaaGreat

namespace Go.Proofs.YtpdgpgbgakinlaaGreat
set_option maxRecDepth 100000
set_option linter.unusedVariables false
set_option linter.unusedSimpArgs false
open Go.RowKit
/-! ### plain -/
def pvK (R : List (List Int)) (k pl : Nat) : Bool := (List.range k).any fun j => decide (ldN (R.getD j []) = pl)
def kerR (p : Int) (N : Nat) (R : List (List Int)) (pl : Nat) (j : Nat) : List Int := (R.take j).foldl (fun l r => l.set (ldN r) ((p - gv r pl) % p)) ((List.replicate N 0).set pl 1)
def kerL (p : Int) (N : Nat) (R : List (List Int)) (k : Nat) : List (List Int) := (List.range k).flatMap fun pl => if pvK R R.length pl then [] else [kerR p N R pl R.length]
theorem kerR_succ {p : Int} {N : Nat} {R : List (List Int)} {pl j : Nat} (h : j < R.length) : kerR p N R pl (j + 1) = (kerR p N R pl j).set (ldN (R.getD j [])) ((p - gv (R.getD j []) pl) % p) := by
  unfold kerR
  rw [List.take_succ_eq_append_getElem h, List.foldl_append, List.foldl_cons, List.foldl_nil, List.getD_eq_getElem?_getD, List.getElem?_eq_getElem h, Option.getD_some]
theorem kerL_skip {p : Int} {N : Nat} {R : List (List Int)} {k : Nat} (h : pvK R R.length k = true) : kerL p N R (k + 1) = kerL p N R k := by
  unfold kerL; rw [List.range_succ, List.flatMap_append]; simp [h]
theorem kerL_do {p : Int} {N : Nat} {R : List (List Int)} {k : Nat} (h : pvK R R.length k = false) : kerL p N R (k + 1) = kerL p N R k ++ [kerR p N R k R.length] := by
  unfold kerL; rw [List.range_succ, List.flatMap_append]; simp [h]
theorem kerR_vec {p : Int} {N : Nat} {R : List (List Int)} {pl : Nat} (hp : 1 < p) : ∀ j, Vec p N (kerR p N R pl j) := by
  intro j
  have hmod : ∀ x : Int, 0 ≤ x % p ∧ x % p < p := fun x => ⟨Int.emod_nonneg _ (by omega), Int.emod_lt_of_pos _ (by omega)⟩
  have hset : ∀ (l : List Int) (i : Nat) (z : Int), Vec p N l → 0 ≤ z → z < p → Vec p N (l.set i z) := fun l i z h h0 h1 => by
    refine ⟨by rw [List.length_set]; exact h.1, fun q hq => ?_⟩
    rw [gv_set (by rw [h.1]; exact hq)]
    by_cases e : q = i
    · rw [if_pos e]; exact ⟨h0, h1⟩
    · rw [if_neg e]; exact h.2 q hq
  have hrep : Vec p N (List.replicate N 0) := ⟨by simp, fun i hi => by
    have : gv (List.replicate N 0) i = 0 := by unfold gv; simp [List.getD_eq_getElem?_getD, hi]
    rw [this]; omega⟩
  unfold kerR
  have : ∀ (S : List (List Int)) (l : List Int), Vec p N l → Vec p N (S.foldl (fun l r => l.set (ldN r) ((p - gv r pl) % p)) l) := by
    intro S
    induction S with
    | nil => intro l h; exact h
    | cons s S ih => intro l h; exact ih _ (hset _ _ _ h (hmod _).1 (hmod _).2)
  exact this _ _ (hset _ _ _ hrep (by omega) hp)
theorem kerL_vec {p : Int} {N : Nat} {R : List (List Int)} (hp : 1 < p) (k : Nat) : ∀ r, r ∈ kerL p N R k → Vec p N r := by
  intro r h
  unfold kerL at h
  obtain ⟨pl, _, h⟩ := List.mem_flatMap.1 h
  by_cases c : pvK R R.length pl = true
  · rw [if_pos c] at h; cases h
  · rw [if_neg c] at h
    rw [List.mem_singleton.1 h]; exact kerR_vec hp _
/-! ### the map of the first places -/
end Go.Proofs.YtpdgpgbgakinlaaGreat

namespace Go.Proofs.YtpdgpgbgakinlaaGreat
set_option maxRecDepth 100000
set_option linter.unusedVariables false
set_option linter.unusedSimpArgs false
def rowsW (f g : List (List Int)) (n : Nat) (p : Int) : List (List Int) := (List.range (n * n * n)).map (rowW f g n p)
def wbL (f g : List (List Int)) (n : Nat) (p : Int) : List (List Int) := echL p (invF p) (n * n) (kerL p (n * n) (echL p (invF p) (n * n) (rowsW f g n p)) (n * n))
def wbF (f g : List (List Int)) (p : Int) : List (List Int) × Int :=
  if isSol f g = true then (if isPr p then (if f.length ≤ 8 then (wbL f g f.length p, 0) else ([], 3)) else ([], 2)) else ([], 1)
theorem wbF_1 {f g : List (List Int)} {p : Int} (h : isSol f g = false) : wbF f g p = ([], 1) := by unfold wbF; rw [h]; rfl
theorem wbF_2 {f g : List (List Int)} {p : Int} (h : isSol f g = true) (h1 : ¬ isPr p) : wbF f g p = ([], 2) := by unfold wbF; rw [if_pos h, if_neg h1]
theorem wbF_3 {f g : List (List Int)} {p : Int} (h : isSol f g = true) (h1 : isPr p) (h2 : ¬ f.length ≤ 8) : wbF f g p = ([], 3) := by unfold wbF; rw [if_pos h, if_pos h1, if_neg h2]
theorem wbF_0 {f g : List (List Int)} {p : Int} (h : isSol f g = true) (h1 : isPr p) (h2 : f.length ≤ 8) : wbF f g p = (wbL f g f.length p, 0) := by unfold wbF; rw [if_pos h, if_pos h1, if_pos h2]
theorem rep_vecW {p : Int} {N : Nat} (hp : 0 < p) : Vec p N (List.replicate N 0) := ⟨by simp, fun i hi => by
  have : gv (List.replicate N 0) i = 0 := by unfold gv; simp [List.getD_eq_getElem?_getD, hi]
  rw [this]; omega⟩
theorem rowW_one {f g : List (List Int)} {n : Nat} {p : Int} (hn : 1 ≤ n) (hf : Sq n f) (hg : Sq n g) (hp : 0 < p) (m : Nat) : CpI n p 3 (cpF f g n p 1 [0, 1, 0] (digL n 3 m, List.replicate (n * n) 0)) :=
  CpI.fold ⟨digL_len n 3 m, digL_less n 3 m hn, rep_vecW hp⟩ hf hg hp (fun k hk => by simp at hk; omega)
theorem rowW_two {f g : List (List Int)} {n : Nat} {p : Int} (hn : 1 ≤ n) (hf : Sq n f) (hg : Sq n g) (hp : 0 < p) (m : Nat) : CpI n p 3 (digL n 3 m, (cpF f g n p 1 [0, 1, 0] (digL n 3 m, List.replicate (n * n) 0)).2) :=
  ⟨digL_len n 3 m, digL_less n 3 m hn, (rowW_one hn hf hg hp m).vec⟩
theorem rowW_vec {f g : List (List Int)} {n : Nat} {p : Int} (hn : 1 ≤ n) (hf : Sq n f) (hg : Sq n g) (hp : 0 < p) (m : Nat) : Vec p (n * n) (rowW f g n p m) :=
  ((rowW_two hn hf hg hp m).fold hf hg hp (t := p - 1) (ks := [1, 0, 1]) (fun k hk => by simp at hk; omega)).vec
theorem rowsW_vec {f g : List (List Int)} {n : Nat} {p : Int} (hn : 1 ≤ n) (hf : Sq n f) (hg : Sq n g) (hp : 0 < p) : ∀ r, r ∈ rowsW f g n p → Vec p (n * n) r := by
  intro r hr
  obtain ⟨m, _, rfl⟩ := List.mem_map.1 hr
  exact rowW_vec hn hf hg hp m
theorem rowsW_take {f g : List (List Int)} {n : Nat} {p : Int} {m : Nat} (h : m < n * n * n) : (rowsW f g n p).take (m + 1) = (rowsW f g n p).take m ++ [rowW f g n p m] := by
  have hx : m < (rowsW f g n p).length := by simpa [rowsW] using h
  rw [List.take_succ_eq_append_getElem hx]
  simp [rowsW]
theorem ech_rdc {p : Int} {N : Nat} {rows : List (List Int)} (hp : isPr p) (hr : ∀ r, r ∈ rows → Vec p N r) : ∀ r, r ∈ echL p (invF p) N rows → Vec p N r ∧ ldN r < N := by
  have p2 : 2 ≤ p ∧ p ≤ 7 := by unfold isPr at hp; omega
  have h := (ech_ok (by omega) (fun a h0 h1 => (invF_ok hp a h0 h1).1) hr).1
  exact fun r q => ⟨h.vec r q, h.lt r q⟩
theorem echS_len (p : Int) (inv : Int → Int) (N : Nat) (s : List (List Int) × List (List Int)) (k : Nat) : (echS p inv N s k).1.length ≤ s.1.length + 1 := by
  unfold echS
  by_cases c : fndL k s.2 = s.2.length
  · rw [if_pos c]; omega
  · rw [if_neg c]; simp
theorem ech_len (p : Int) (inv : Int → Int) (N : Nat) (rows : List (List Int)) : (echL p inv N rows).length ≤ N := by
  have h : ∀ k, (echK p inv N rows k).1.length ≤ k := by
    intro k
    induction k with
    | zero => exact Nat.le_refl _
    | succ k ih => rw [echK_succ]; have := echS_len p inv N (echK p inv N rows k) k; omega
  exact h N
theorem ker_len (p : Int) (N : Nat) (R : List (List Int)) : ∀ k, (kerL p N R k).length ≤ k := by
  intro k
  induction k with
  | zero => exact Nat.le_refl _
  | succ k ih =>
    cases c : pvK R R.length k with
    | true => rw [kerL_skip c]; omega
    | false => rw [kerL_do c]; simp; omega
end Go.Proofs.YtpdgpgbgakinlaaGreat
