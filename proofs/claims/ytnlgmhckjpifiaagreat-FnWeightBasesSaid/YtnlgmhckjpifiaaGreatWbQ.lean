/-
  Plain facts for the law of weight bases.
  No condition.
-/
import Derived.Test.YtnlgmhckjpifiaaGreatWbP
import Derived.Test.YtnlgmhckjpifiaaGreatBase
namespace Go.Proofs.YtnlgmhckjpifiaaGreat
set_option linter.unusedVariables false
set_option linter.unusedSimpArgs false
open Go.RowKit

theorem wbs_facts (f g : List (List Int)) (p : Int) : (∃ B k, wbF f g p = (B, k) ∧ (k = 1 ∨ k = 2 ∨ k = 3)) ∨ ∃ B, wbF f g p = (B, 0) ∧ isSol f g = true ∧ isPr p ∧ f.length ≤ 8 ∧ B = wbL f g f.length p := by
  cases h : isSol f g with
  | false => exact .inl ⟨[], 1, wbF_1 h, .inl rfl⟩
  | true =>
    by_cases h1 : isPr p
    · by_cases h2 : f.length ≤ 8
      · exact .inr ⟨_, wbF_0 h h1 h2, rfl, h1, h2, rfl⟩
      · exact .inl ⟨[], 3, wbF_3 h h1 h2, .inr (.inr rfl)⟩
    · exact .inl ⟨[], 2, wbF_2 h h1, .inr (.inl rfl)⟩
/-- a row of which the first j numbers have been turned -/
def prgL (p k : Int) (T b : List Int) (j : Nat) : List Int := (List.range T.length).map fun i => if i < j then (gv T i + k * gv b i) % p else gv T i
theorem prgL_len (p k : Int) (T b : List Int) (j : Nat) : (prgL p k T b j).length = T.length := by simp [prgL]
theorem prgL_gv {p k : Int} {T b : List Int} {j i : Nat} (h : i < T.length) : gv (prgL p k T b j) i = if i < j then (gv T i + k * gv b i) % p else gv T i := gv_map _ h
theorem gvEq {a b : List Int} (hl : a.length = b.length) (h : ∀ i, i < a.length → gv a i = gv b i) : a = b := by
  apply List.ext_getElem hl
  intro i h1 h2
  have := h i h1
  unfold gv at this
  rw [List.getD_eq_getElem?_getD, List.getD_eq_getElem?_getD, List.getElem?_eq_getElem h1, List.getElem?_eq_getElem h2] at this
  exact this
theorem prgL_zero (p k : Int) (T b : List Int) : prgL p k T b 0 = T := gvEq (prgL_len _ _ _ _ _) fun i hi => by
  rw [prgL_len] at hi
  rw [prgL_gv hi, if_neg (by omega)]
theorem prgL_full (p k : Int) (T b : List Int) : prgL p k T b T.length = addL p k T b := gvEq (by rw [prgL_len, addL_len]) fun i hi => by
  rw [prgL_len] at hi
  rw [prgL_gv hi, if_pos hi, addL_gv hi]
theorem prgL_step {p k : Int} {T b : List Int} {j : Nat} (h : j < T.length) : (prgL p k T b j).set j ((gv T j + k * gv b j) % p) = prgL p k T b (j + 1) := gvEq (by rw [List.length_set, prgL_len, prgL_len]) fun i hi => by
  rw [List.length_set, prgL_len] at hi
  rw [gv_set (by rw [prgL_len]; exact hi), prgL_gv hi, prgL_gv hi]
  by_cases e : i = j
  · subst e; rw [if_pos rfl, if_pos (by omega)]
  · rw [if_neg e]
    by_cases q : i < j
    · rw [if_pos q, if_pos (by omega)]
    · rw [if_neg q, if_neg (by omega)]
theorem prgL_at {p k : Int} {T b : List Int} {j : Nat} (h : j < T.length) : gv (prgL p k T b j) j = gv T j := by rw [prgL_gv h, if_neg (by omega)]
theorem chL_take {n x : Nat} {R : List Int} (h : x < n) : (chL n R).take (x + 1) = (chL n R).take x ++ [(R.drop (x * n)).take n] := by
  have hl : x < (chL n R).length := by rw [chL_len]; exact h
  rw [List.take_succ_eq_append_getElem hl]
  simp [chL]
theorem takL_take {p : Int} {B : List (List Int)} {r : List Int} {i : Nat} (h : i < B.length) : takL p (B.take (i + 1)) r = addL p (p - gv (takL p (B.take i) r) (ldN (B.getD i []))) (takL p (B.take i) r) (B.getD i []) := by
  unfold takL
  rw [List.take_succ_eq_append_getElem h, List.foldl_append, List.foldl_cons, List.foldl_nil, List.getD_eq_getElem?_getD, List.getElem?_eq_getElem h]; rfl
theorem takL_vec {p : Int} {N : Nat} (hp : 0 < p) : ∀ (B : List (List Int)) {r : List Int}, Vec p N r → Vec p N (takL p B r)
  | [], r, h => h
  | b :: B, r, h => takL_vec hp B (addL_vec hp h.1)
theorem vec_of {p : Int} {N : Nat} {xs : List Int} (hl : xs.length = N) (h : ∀ x ∈ xs, 0 ≤ x ∧ x < p) : Vec p N xs := ⟨hl, fun i hi => by
  have : gv xs i ∈ xs := by unfold gv; rw [List.getD_eq_getElem?_getD, List.getElem?_eq_getElem (by omega)]; exact List.getElem_mem _
  exact h _ this⟩
theorem Vec.mem {p : Int} {N : Nat} {xs : List Int} (h : Vec p N xs) : ∀ x ∈ xs, 0 ≤ x ∧ x < p := fun x hx => by
  obtain ⟨i, hi, rfl⟩ := List.getElem_of_mem hx
  have := h.2 i (by rw [← h.1]; exact hi)
  unfold gv at this
  rw [List.getD_eq_getElem?_getD, List.getElem?_eq_getElem hi] at this
  exact this
theorem sum_zero {xs : List Int} (h : ∀ x ∈ xs, 0 ≤ x) : xs.sum = 0 ↔ ∀ x ∈ xs, x = 0 := by
  induction xs with
  | nil => simp
  | cons x xs ih =>
    have h1 := h x (by simp)
    have ih := ih fun y hy => h y (by simp [hy])
    have hs : 0 ≤ xs.sum := by
      have : ∀ l : List Int, (∀ y ∈ l, 0 ≤ y) → 0 ≤ l.sum := by
        intro l
        induction l with
        | nil => intro _; simp
        | cons a l ihl => intro hl; rw [List.sum_cons]; have := hl a (by simp); have := ihl fun y hy => hl y (by simp [hy]); omega
      exact this xs fun y hy => h y (by simp [hy])
    rw [List.sum_cons]
    constructor
    · intro e y hy
      rcases List.mem_cons.1 hy with rfl | hy
      · omega
      · exact (ih.1 (by omega)) y hy
    · intro e
      have e1 := e x (by simp)
      have e2 := ih.2 fun y hy => e y (by simp [hy])
      omega
/-- the law's last word: a list is a weight exactly if the sum of what is left is 0 -/
theorem wbs_last {f g : List (List Int)} {p : Int} {R : List Int} (hs : isSol f g = true) (hp : isPr p) (hR : Vec p (f.length * f.length) R) : (decide (wtFlt f.length f g (chL f.length R) p = []) == ((takL p (wbL f g f.length p) R).sum == 0)) = true := by
  obtain ⟨n1, _, sf, sg⟩ := isSol_sq hs
  have hp0 : 0 < p := by unfold isPr at hp; omega
  have hV := takL_vec hp0 (wbL f g f.length p) hR
  have e := wt_tak hp n1 sf sg hR
  have hz := sum_zero fun x hx => (hV.mem x hx).1
  have key : (wtFlt f.length f g (chL f.length R) p = []) ↔ (takL p (wbL f g f.length p) R).sum = 0 := by
    rw [e, hz]
    constructor
    · intro h x hx
      obtain ⟨i, hi, rfl⟩ := List.getElem_of_mem hx
      have := h i (by rw [← hV.1]; exact hi)
      unfold gv at this
      rw [List.getD_eq_getElem?_getD, List.getElem?_eq_getElem hi] at this
      exact this
    · intro h i hi
      refine h _ ?_
      unfold gv
      rw [List.getD_eq_getElem?_getD, List.getElem?_eq_getElem (by rw [hV.1]; exact hi)]
      exact List.getElem_mem _
  by_cases h : wtFlt f.length f g (chL f.length R) p = []
  · simp [h, key.1 h]
  · have : ¬ (takL p (wbL f g f.length p) R).sum = 0 := fun q => h (key.2 q)
    simp [h, this]
theorem isw_of {f g M : List (List Int)} {p : Int} (hs : isSol f g = true) (hM : isMx f.length p M = true) : iswF f g p M = (decide (wtFlt f.length f g M p = []), 0) := by
  unfold iswF; rw [if_pos hs, if_pos hM]
theorem isw_gen {f g : List (List Int)} {p : Int} {T : List Int} (hs : isSol f g = true) (hp : isPr p) (hT : Vec p (f.length * f.length) T) (hG : Gen p (f.length * f.length) (wbL f g f.length p) (gv T)) : iswF f g p (chL f.length T) = (true, 0) := by
  obtain ⟨n1, _, sf, sg⟩ := isSol_sq hs
  have hp0 : 1 ≤ p ∧ p ≤ 12 := by unfold isPr at hp; omega
  rw [isw_of hs (chL_mx hp0 hT), decide_eq_true ((wt_gen hp n1 sf sg hT).2 hG)]
/-- a row of the basis -/
theorem wb_row {f g : List (List Int)} {p : Int} (hs : isSol f g = true) (hp : isPr p) {b : List Int} (hb : b ∈ wbL f g f.length p) : Vec p (f.length * f.length) b ∧ ldN b < f.length * f.length ∧ gv b (ldN b) = 1 := by
  have h := rk_rdc (p := p) (N := f.length * f.length) (rows := rowsW f g f.length p) hp
  rw [← wb_rk] at h
  exact ⟨h.vec b hb, h.lt b hb, h.one b hb⟩
theorem wb_len {f g : List (List Int)} {p : Int} : (wbL f g f.length p).length ≤ f.length * f.length := ech_len _ _ _ _
theorem gen_rep {p : Int} {N : Nat} {B : List (List Int)} (hp : 0 < p) : Vec p N (List.replicate N 0) ∧ Gen p N B (gv (List.replicate N 0)) :=
  ⟨rep_vecW hp, .zero _ fun i _ => cg.of (by unfold gv; rw [List.getD_eq_getElem?_getD, List.getElem?_replicate]; split <;> rfl)⟩
/-- a part of a row -/
theorem Row.mid2 {w : World} {g N : Nat} {xs : List Int} (h : Row w (some ⟨g, 0, none⟩) N xs) (q m : Nat) (hq : q + m ≤ N) : Row w (some ⟨g, q, none⟩) m ((xs.drop q).take m) := by
  refine ⟨by rw [List.length_take, List.length_drop, ← h.1]; omega, fun i hi => ?_⟩
  obtain ⟨b, off, e1, e2, e3⟩ := h.2 (q + i) (by omega)
  cases e1
  refine ⟨g, q, rfl, e2, ?_⟩
  rw [Nat.zero_add] at e3
  rw [e3]
  simp [List.getD_eq_getElem?_getD, List.getElem?_take, hi]
/-- the header of n parts of one list -/
def cutV (tb N n x : Nat) : SV := (some ⟨tb, x * n, none⟩, (x + 1) * n - x * n, N - x * n)
def cutVs (tb N n k : Nat) : List SV := (List.range k).map (cutV tb N n)
theorem cutVs_succ (tb N n k : Nat) : cutVs tb N n (k + 1) = cutVs tb N n k ++ [cutV tb N n k] := by simp [cutVs, List.range_succ]
theorem cut_tbl {w : World} {lo tb n c : Nat} {a : Option Addr} {T : List Int} (h : Hd w lo a n c (cutVs tb (n * n) n n)) (hr : Row w (some ⟨tb, 0, none⟩) (n * n) T) (hn : n ≤ 1000) : Tbl w a n (chL n T) := by
  refine h.read.tbl (by rw [chL_len]) fun i hi => ?_
  have e : (cutVs tb (n * n) n n).getD i svO = cutV tb (n * n) n i := by unfold cutVs; rw [List.getD_eq_getElem?_getD, List.getElem?_eq_getElem (by simpa using hi)]; simp
  have e2 : (i + 1) * n - i * n = n := by rw [Nat.add_mul]; omega
  rw [e, chL_row hi]
  unfold cutV
  rw [e2]
  exact ⟨hr.mid2 (i * n) n (rowN hi), by show n ≤ _; omega⟩
end Go.Proofs.YtnlgmhckjpifiaaGreat
