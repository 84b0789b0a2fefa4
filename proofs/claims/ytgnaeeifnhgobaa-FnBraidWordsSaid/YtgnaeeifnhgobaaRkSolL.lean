/-
  The solution of a rack is a solution; its kink; in plain lists.
  No condition.
-/
import Derived.Test.YtgnaeeifnhgobaaRackL
import Derived.Test.YtgnaeeifnhgobaaBase
import Derived.Test.YtgnaeeifnhgobaaWtL
namespace Go.Proofs.Ytgnaeeifnhgobaa
set_option linter.unusedVariables false
set_option linter.unusedSimpArgs false

/-- the second table of a rack's solution -/
def cstL (n : Nat) : List (List Int) := tabF n fun x _ => (x : Int)
theorem tabF_getD {n : Nat} {v : Nat → Nat → Int} {x y : Nat} (hx : x < n) (hy : y < n) : ((tabF n v).getD x []).getD y 0 = v x y := by
  rw [tabF_get n v x hx]; simp [List.getD_eq_getElem?_getD, List.getElem?_map, hy]
theorem tv_tab2 {n : Nat} {v : Nat → Nat → Int} {x y : Nat} (hx : x < n) (hy : y < n) : tv (tabF n v) x y = (v x y).toNat := by
  unfold tv; rw [tabF_getD hx hy]
theorem tabF_sq {n : Nat} {v : Nat → Nat → Int} (h : ∀ x y, x < n → y < n → 0 ≤ v x y ∧ v x y < n) : Sq n (tabF n v) := by
  refine ⟨tabF_len n v, fun x hx => ⟨?_, fun y hy => ?_⟩⟩
  · rw [tabF_get n v x hx]; simp
  · have := h x y hx hy
    rw [tv_tab2 hx hy, tabF_getD hx hy]
    omega
theorem Sq.eq_tabF {n : Nat} {t : List (List Int)} (h : Sq n t) : tabF n (fun x y => ((tv t x y : Nat) : Int)) = t := by
  apply List.ext_getElem
  · rw [tabF_len, h.len]
  · intro x h1 h2
    have hx : x < n := by rw [tabF_len] at h1; exact h1
    have e1 := tabF_get n (fun x y => ((tv t x y : Nat) : Int)) x hx
    rw [List.getD_eq_getElem?_getD, List.getElem?_eq_getElem h1] at e1
    simp only [Option.getD_some] at e1
    rw [e1]
    have hl := h.row hx
    have e2 : t.getD x [] = t[x] := by simp [List.getD_eq_getElem?_getD, List.getElem?_eq_getElem h2]
    rw [e2] at hl
    apply List.ext_getElem
    · simp [hl]
    · intro y g1 g2
      have hy : y < n := by simpa using g1
      have := h.val hx hy
      rw [e2, List.getD_eq_getElem?_getD, List.getElem?_eq_getElem g2] at this
      simp only [Option.getD_some] at this
      simp [this]
theorem sq_isTab {n : Nat} {t : List (List Int)} (h : Sq n t) (h1 : 1 ≤ n) (h2 : n ≤ 12) : isTab t = true := by
  unfold isTab
  rw [h.len, Bool.and_eq_true]
  refine ⟨by unfold rngB; simp; omega, ?_⟩
  rw [List.all_eq_true]
  intro r hr
  obtain ⟨x, hx, rfl⟩ := List.getElem_of_mem hr
  have hxn : x < n := by rw [h.len] at hx; exact hx
  have e2 : t.getD x [] = t[x] := by simp [List.getD_eq_getElem?_getD, List.getElem?_eq_getElem hx]
  have hl := h.row hxn
  rw [e2] at hl
  unfold rowOk
  rw [Bool.and_eq_true]
  refine ⟨by simp [hl], ?_⟩
  rw [List.all_eq_true]
  intro z hz
  obtain ⟨y, hy, rfl⟩ := List.getElem_of_mem hz
  have hv := h.val hxn (show y < n by omega)
  have hlt := h.lt hxn (show y < n by omega)
  rw [e2, List.getD_eq_getElem?_getD, List.getElem?_eq_getElem hy] at hv
  simp only [Option.getD_some] at hv
  rw [hv]
  unfold rngB
  simp
  omega
theorem allN_mk {n : Nat} {P : Nat → Bool} (h : ∀ k, k < n → P k = true) : allN n P = true := by
  unfold allN; rw [List.all_eq_true]; intro k hk; exact h k (List.mem_range.1 hk)
theorem cst_sq (n : Nat) : Sq n (cstL n) := tabF_sq fun x y hx hy => by omega
theorem tv_cst {n x y : Nat} (hx : x < n) (hy : y < n) : tv (cstL n) x y = x := by unfold cstL; rw [tv_tab2 hx hy]; simp
/-- a row that is a permutation does not lead two elements to one -/
theorem perm_inj {n : Nat} {t : List (List Int)} (h : Sq n t) (hp : t.all permOk = true) {x y z : Nat} (hx : x < n) (hy : y < n) (hz : z < n) (e : tv t x y = tv t x z) : y = z := by
  have hxl : x < t.length := by rw [h.len]; exact hx
  have hm := List.all_eq_true.1 hp t[x] (List.getElem_mem hxl)
  have e2 : t.getD x [] = t[x] := by simp [List.getD_eq_getElem?_getD, List.getElem?_eq_getElem hxl]
  have hl := h.row hx
  rw [e2] at hl
  have := (permOk_to hm).2 y z (by omega) (by omega)
  have v1 := h.val hx hy
  have v2 := h.val hx hz
  rw [e2] at v1 v2
  exact this (by rw [v1, v2, e])
theorem isRk_parts {t : List (List Int)} (h : isRk t = true) : isTab t = true ∧ t.all permOk = true ∧ rkOk t.length t = true := by
  unfold isRk at h
  rw [Bool.and_eq_true, Bool.and_eq_true] at h
  exact ⟨h.1, h.2.1, h.2.2⟩
theorem rk_isSol {t : List (List Int)} (h : isRk t = true) : isSol t (cstL t.length) = true := by
  obtain ⟨h1, h2, h3⟩ := isRk_parts h
  obtain ⟨n1, n2, sq⟩ := isTab_sq h1
  have hc := cst_sq t.length
  unfold isSol isPm
  rw [Bool.and_eq_true, Bool.and_eq_true, Bool.and_eq_true, Bool.and_eq_true]
  generalize hn : t.length = n at *
  refine ⟨⟨h1, sq_isTab hc n1 n2, by simp [hc.len]⟩, ?_, ?_⟩
  · unfold collOk
    refine allN_mk fun p hp => allN_mk fun q hq => ?_
    have a1 : p / n < n := Nat.div_lt_of_lt_mul hp
    have a2 : q / n < n := Nat.div_lt_of_lt_mul hq
    have b1 : p % n < n := Nat.mod_lt _ (by omega)
    have b2 : q % n < n := Nat.mod_lt _ (by omega)
    unfold collAt
    rw [tv_cst a1 b1, tv_cst a2 b2]
    by_cases e : p = q
    · simp [e]
    · simp only [e, decide_false, Bool.not_false, Bool.true_and, Bool.not_eq_true', Bool.and_eq_false_iff, decide_eq_false_iff_not]
      rw [← Classical.not_and_iff_not_or_not]
      rintro ⟨e1, e2⟩
      rw [← e2] at e1
      have := perm_inj sq h2 a1 b1 b2 e1
      apply e
      rw [← Nat.div_add_mod p n, ← Nat.div_add_mod q n, e2, this]
  · unfold eqOk
    refine allN_mk fun x hx => allN_mk fun y hy => allN_mk fun z hz => ?_
    have hr := allN_get (allN_get (allN_get h3 hx) hy) hz
    unfold rkAt at hr
    have hr := of_decide_eq_true hr
    have c1 := sq.lt hx hy
    have c2 := sq.lt hx hz
    have c3 := sq.lt hy hz
    unfold eqAt
    simp only [tv_cst hx hy, tv_cst hx hz, tv_cst hy hz, tv_cst c1 c2, tv_cst hx c3]
    simp [hr]
/-- each element leads itself to itself -/
def qndOk (n : Nat) (t : List (List Int)) : Bool := allN n fun x => decide (tv t x x = x)
/-- the kink -/
def knkL (n : Nat) (t : List (List Int)) : List Int := (List.range n).map fun x => ((tv t x x : Nat) : Int)
/-- strictly increasing -/
def incOk (L : List Int) : Bool := allN (L.length - 1) fun i => decide (L.getD i 0 < L.getD (i + 1) 0)
theorem knk_getD {n x : Nat} {t : List (List Int)} (h : x < n) : (knkL n t).getD x 0 = ((tv t x x : Nat) : Int) := by
  simp [knkL, List.getD_eq_getElem?_getD, List.getElem?_map, h]
theorem knk_len (n : Nat) (t : List (List Int)) : (knkL n t).length = n := by simp [knkL]
/-- numbers less than n that increase are the identity -/
theorem inc_id {n : Nat} {L : List Int} (hl : L.length = n) (hb : ∀ i, i < n → 0 ≤ L.getD i 0 ∧ L.getD i 0 < n) : incOk L = true ↔ ∀ i, i < n → L.getD i 0 = i := by
  constructor
  · intro h
    have step : ∀ i, i + 1 < n → L.getD i 0 < L.getD (i + 1) 0 := fun i hi => by
      have := allN_get h (k := i) (by omega)
      exact of_decide_eq_true this
    have lo : ∀ i, i < n → (i : Int) ≤ L.getD i 0 := by
      intro i
      induction i with
      | zero => intro hi; have := hb 0 hi; omega
      | succ i ih => intro hi; have := ih (by omega); have := step i hi; omega
    have hi' : ∀ k i, i + k + 1 = n → L.getD i 0 ≤ i := by
      intro k
      induction k with
      | zero => intro i hi; have := hb i (by omega); omega
      | succ k ih => intro i hi; have := ih (i + 1) (by omega); have := step i (by omega); omega
    intro i hi
    have := lo i hi
    have := hi' (n - i - 1) i (by omega)
    omega
  · intro h
    refine allN_mk fun i hi => ?_
    rw [h i (by omega), h (i + 1) (by omega)]
    simp
    omega
theorem inc_knk {n : Nat} {t : List (List Int)} (h : Sq n t) : incOk (knkL n t) = qndOk n t := by
  rw [Bool.eq_iff_iff, inc_id (knk_len n t) (fun i hi => by rw [knk_getD hi]; have := h.lt hi hi; omega)]
  constructor
  · intro g
    refine allN_mk fun x hx => ?_
    have := g x hx
    rw [knk_getD hx] at this
    simp
    omega
  · intro g i hi
    have := of_decide_eq_true (allN_get g hi)
    rw [knk_getD hi, this]
/-- no number but 0 on the diagonal -/
def diaOk (n : Nat) (M : List (List Int)) : Bool := allN n fun x => decide (tv M x x = 0)
/-- a quandle and a quandle weight of it -/
def qwOk (t : List (List Int)) (m : Int) (M : List (List Int)) : Bool := diaOk t.length M && (qndOk t.length t && decide (wtFlt t.length t (cstL t.length) M m = []))
/-- what IsQuandleWeight hands back -/
def iqF (t : List (List Int)) (m : Int) (M : List (List Int)) : Bool × Int := if isRk t then (if isMx t.length m M then (qwOk t m M, 0) else (false, 2)) else (false, 1)
section
variable {t M : List (List Int)} {m : Int}
theorem iqF_0 (h : isRk t = false) : iqF t m M = (false, 1) := by unfold iqF; rw [h]; rfl
theorem iqF_1 (h : isRk t = true) (h1 : isMx t.length m M = false) : iqF t m M = (false, 2) := by unfold iqF; rw [h, h1]; rfl
theorem iqF_2 (h : isRk t = true) (h1 : isMx t.length m M = true) : iqF t m M = (qwOk t m M, 0) := by unfold iqF; rw [h, h1]; rfl
end
end Go.Proofs.Ytgnaeeifnhgobaa
