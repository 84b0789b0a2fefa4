/-
  Walks and plain laws of this seat, some texts in one.
  No condition but bounds on lengths.
-/
import Derived.Test.YtpdgpgbgakinlaaGreatPa5
import Derived.Test.YtpdgpgbgakinlaaGreatPa7
import Derived.Test.YtpdgpgbgakinlaaGreatPa6
namespace Go.Proofs.YtpdgpgbgakinlaaGreat
set_option maxRecDepth 100000
set_option linter.unusedVariables false
set_option linter.unusedSimpArgs false
open Go.RowKit
def isMx (n m : Int) (f : List (List Int)) : Bool := rngB 1 12 m && (decide ((f.length : Int) = n) && f.all (rowOk n m))
set_option maxHeartbeats 400000 in
theorem isShift_any (N m : Int) (a : Option Addr) (n c : Nat) (xs : List Int) (w : World) (h1 : Row w a n xs) (hm : n ≤ 9223372036854775807) :
    Calls Tryz.prog 68 #[.int .i64 N, .int .i64 m, .slice a n c] w fun e w' => e = .returned (.bool (rngB 1 12 m && rowOk N m xs)) ∧ w = w' := by
  have hl := h1.len
  cases hp : rngB 1 12 m with
  | false =>
    have HC := Lib.hid (fun w => within_b m 1 12 false hp w); clear hp hl
    go_enter Tryz.func68, Tryz.ntmps68
    go_wp2_with fail
    refine (HC.out _).mono ?_
    rintro e w' ⟨rfl, rfl⟩
    go_wp2
    go_ret
    exact ⟨ret_bool (by simp), rfl⟩
  | true =>
    have HC := Lib.hid (fun w => within_b m 1 12 true hp w)
    have hmm : 1 ≤ m ∧ m ≤ 12 := by simpa [rngB] using hp
    clear hp
    by_cases hn : (n : Int) = N
    · have b1 : ((n : Int) == N) = true := by simpa using hn
      have hq : rowOk N m xs = xs.all (rngB 0 (m - 1)) := by simp [rowOk, ← hl, hn]
      have HQ := Lib.hid hq; have HA := Lib.hid (fun w hr => allWithin_any a n c xs 0 (m - 1) w hr hm); clear hq hl hn
      go_enter Tryz.func68, Tryz.ntmps68
      go_wp2_with fail
      refine (HC.out _).mono ?_
      rintro e w' ⟨rfl, rfl⟩
      go_wp2_with fail
      refine (HA.out _ h1).mono ?_
      rintro e w' ⟨rfl, rfl⟩
      go_wp2
      go_ret
      exact ⟨ret_bool (by rw [HQ.out]; simp), rfl⟩
    · have b1 : ((n : Int) == N) = false := by simpa using hn
      have hq : rowOk N m xs = false := by simp [rowOk, ← hl, hn]
      have HQ := Lib.hid hq; clear hq hl hn
      go_enter Tryz.func68, Tryz.ntmps68
      go_wp2_with fail
      refine (HC.out _).mono ?_
      rintro e w' ⟨rfl, rfl⟩
      go_wp2
      go_ret
      exact ⟨ret_bool (by rw [HQ.out]; simp), rfl⟩
set_option maxHeartbeats 400000 in
theorem isMatrix1_any (N m : Int) (b1 b2 : Nat) (t1 t2 : TypeId) (a : Option Addr) (n c : Nat) (xs : List Int) (w : World) (hL1 : Loc w b1 #[.int .i64 N] t1) (hL2 : Loc w b2 #[.int .i64 m] t2) (h1 : Row w a n xs) (hm : n ≤ 9223372036854775807) (hmm : rngB 1 12 m = true) :
    Calls Tryz.prog 88 #[.slice a n c, .pointer (some ⟨b1, 0, none⟩), .pointer (some ⟨b2, 0, none⟩)] w fun e w' => e = .returned (.bool (!rowOk N m xs)) ∧ w = w' := by
  have l1 := hL1.one
  have l2 := hL2.one
  have hc := isShift_any N m a n c xs w h1 hm
  rw [hmm, Bool.true_and] at hc
  have HC := Lib.hid hc; clear hc hmm
  go_enter Tryz.func88, Tryz.ntmps88
  go_wp2_with fail
  refine HC.out.mono ?_
  rintro e w' ⟨rfl, rfl⟩
  go_wp2
  go_ret
  exact ⟨rfl, rfl⟩
theorem ent_isMatrix1 : Ent 88 := fun _ _ => rfl
set_option maxHeartbeats 1000000 in
theorem isMatrix_any (N m : Int) (a : Option Addr) (n c : Nat) (xs : List (List Int)) (w : World) (h1 : Tbl w a n xs) (hm : n ≤ 9223372036854775807) :
    Calls Tryz.prog 42 #[.int .i64 N, .int .i64 m, .slice a n c] w fun e w' => e = .returned (.bool (isMx N m xs)) ∧ Below w.heap.size w w' := by
  have hl := h1.len
  have hB := below_al (below_al (Below.refl w.heap.size w) (.cells #[.int .i64 N] 3)) (.cells #[.int .i64 m] 2)
  cases hp : rngB 1 12 m with
  | false =>
    have hq : isMx N m xs = false := by simp [isMx, hp]
    have HQ := Lib.hid hq
    have HC := Lib.hid (fun w => within_b m 1 12 false hp w); clear hp hl hq
    go_enter Tryz.func42, Tryz.ntmps42
    go_wp2_with fail
    refine (HC.out _).mono ?_
    rintro e w' ⟨rfl, rfl⟩
    go_wp2
    go_ret
    exact ⟨ret_bool HQ.out.symm, hB⟩
  | true =>
    have HC := Lib.hid (fun w => within_b m 1 12 true hp w)
    have HP := Lib.hid hp
    by_cases hn : (n : Int) = N
    · have b1 : ((n : Int) == N) = true := by simpa using hn
      have hq : isMx N m xs = xs.all (rowOk N m) := by simp [isMx, hp, ← hl, hn]
      have HQ := Lib.hid hq; clear hq hl hn hp
      have hcl : ∀ x ∈ xs, ∀ w1, ((w.alloc (.cells #[.int .i64 N] 3)).alloc (.cells #[.int .i64 m] 2)) = w1 → ∀ a' n' c', Row w1 a' n' x → n' ≤ 9223372036854775807 → Calls Tryz.prog 88 (#[.slice a' n' c'] ++ #[.pointer (some ⟨w.heap.size, 0, none⟩), .pointer (some ⟨w.heap.size + 1, 0, none⟩)]) w1 fun e w' => e = .returned (.bool (!rowOk N m x)) ∧ ((w.alloc (.cells #[.int .i64 N] 3)).alloc (.cells #[.int .i64 m] 2)) = w' := fun x hx w1 hw1 a' n' c' hr hn' => by
        subst hw1
        exact isMatrix1_any N m _ _ _ _ a' n' c' x _ ((Loc.new _ rfl _ _).alloc _) (Loc.new _ (by simp) _ _) hr hn' HP.out
      have HCL := Lib.hid hcl; clear hcl
      go_enter Tryz.func42, Tryz.ntmps42
      go_wp2_with fail
      refine (HC.out _).mono ?_
      rintro e w' ⟨rfl, rfl⟩
      go_wp2_with fail
      refine (containsFunc_rows (fun w1 => ((w.alloc (.cells #[.int .i64 N] 3)).alloc (.cells #[.int .i64 m] 2)) = w1) 88 _ (fun x => !rowOk N m x) _ _ _ xs _ rfl (fun w1 h => h ▸ (h1.alloc _).alloc _) hm ent_isMatrix1 HCL.out).mono ?_
      rintro e w' ⟨rfl, rfl⟩
      go_wp2
      go_ret
      refine ⟨ret_bool ?_, hB⟩
      rw [HQ.out]
      simp [List.any_eq_not_all_not]
    · have b1 : ((n : Int) == N) = false := by simpa using hn
      have hq : isMx N m xs = false := by simp [isMx, ← hl, hn]
      have HQ := Lib.hid hq; clear hq hl hn hp
      go_enter Tryz.func42, Tryz.ntmps42
      go_wp2_with fail
      refine (HC.out _).mono ?_
      rintro e w' ⟨rfl, rfl⟩
      go_wp2
      go_ret
      exact ⟨ret_bool HQ.out.symm, hB⟩
end Go.Proofs.YtpdgpgbgakinlaaGreat

namespace Go.Proofs.YtpdgpgbgakinlaaGreat
set_option linter.unusedVariables false
set_option linter.unusedSimpArgs false
def SqM (n m : Nat) (t : List (List Int)) : Prop := t.length = n ∧ ∀ x, x < n → (t.getD x []).length = n ∧ ∀ y, y < n → tv t x y < m ∧ (t.getD x []).getD y 0 = ((tv t x y : Nat) : Int)
theorem isMx_sq {n : Nat} {m : Int} {t : List (List Int)} (h : isMx n m t = true) : (1 ≤ m ∧ m ≤ 12) ∧ SqM n m.toNat t := by
  unfold isMx at h
  rw [Bool.and_eq_true, Bool.and_eq_true] at h
  obtain ⟨h1, h2, h3⟩ := h
  have hm : 1 ≤ m ∧ m ≤ 12 := by unfold rngB at h1; simpa using h1
  have hl : t.length = n := by have := of_decide_eq_true h2; omega
  refine ⟨hm, hl, fun x hx => ?_⟩
  have hxl : x < t.length := by omega
  have hr := List.all_eq_true.1 h3 t[x] (List.getElem_mem hxl)
  have e : t.getD x [] = t[x] := by simp [List.getD_eq_getElem?_getD, List.getElem?_eq_getElem hxl]
  obtain ⟨h4, h5⟩ := rowOk_get hr
  rw [e]
  refine ⟨by omega, fun y hy => ?_⟩
  have := h5 y (by omega)
  unfold tv
  rw [e]
  omega
def wtT (M : List (List Int)) (m : Int) (x : Int) (l r : List Int) : Int :=
  if 0 < x then ((tv M (l.getD (plc x).toNat 0).toNat (l.getD ((plc x).toNat + 1) 0).toNat : Nat) : Int)
  else m - ((tv M (r.getD (plc x).toNat 0).toNat (r.getD ((plc x).toNat + 1) 0).toNat : Nat) : Int)
def wtS (n : Nat) (f g M : List (List Int)) (m : Int) : List Int → List Int → Int
  | [], _ => 0
  | x :: xs, l => wtT M m x l (stepL n f g x l) + wtS n f g M m xs (stepL n f g x l)
theorem wtS_append (n : Nat) (f g M : List (List Int)) (m : Int) (xs ys l : List Int) : wtS n f g M m (xs ++ ys) l = wtS n f g M m xs l + wtS n f g M m ys (actL n f g xs l) := by
  induction xs generalizing l with
  | nil => simp [wtS, actL]
  | cons x r ih =>
    simp only [List.cons_append, wtS]
    rw [ih]
    show _ = _ + wtS n f g M m ys (actL n f g r (stepL n f g x l))
    omega
theorem wtS_take (n : Nat) (f g M : List (List Int)) (m : Int) (xs l : List Int) (k : Nat) (h : k < xs.length) :
    wtS n f g M m (xs.take (k + 1)) l = wtS n f g M m (xs.take k) l + wtT M m xs[k] (actL n f g (xs.take k) l) (actL n f g (xs.take (k + 1)) l) := by
  rw [actL_take n f g xs l k h, List.take_succ_eq_append_getElem h, wtS_append]
  simp [wtS]
theorem wtT_bd {n : Nat} {M : List (List Int)} {m : Int} (hM : SqM n m.toNat M) (hm : 1 ≤ m ∧ m ≤ 12) {x : Int} {l r : List Int} (hl : Less n l) (hr : Less n r) (h1 : (plc x).toNat + 1 < l.length) (h2 : (plc x).toNat + 1 < r.length) : 0 ≤ wtT M m x l r ∧ wtT M m x l r ≤ m := by
  unfold wtT
  split
  · obtain ⟨a, ha, ea⟩ := hl _ (show (plc x).toNat < l.length by omega)
    obtain ⟨b, hb, eb⟩ := hl _ h1
    rw [ea, eb]
    have := ((hM.2 a ha).2 b hb).1
    simp only [Int.toNat_natCast]
    omega
  · obtain ⟨a, ha, ea⟩ := hr _ (show (plc x).toNat < r.length by omega)
    obtain ⟨b, hb, eb⟩ := hr _ h2
    rw [ea, eb]
    have := ((hM.2 a ha).2 b hb).1
    simp only [Int.toNat_natCast]
    omega
def wtF (n : Nat) (f g M : List (List Int)) (m : Int) (xs l : List Int) : Int := wtS n f g M m xs l % m
def wtBad (n : Nat) (f g M : List (List Int)) (m : Int) (l : List Int) : Bool := !decide (wtF n f g M m [1, 2, 1] l = wtF n f g M m [2, 1, 2] l)
def wtFlt (n : Nat) (f g M : List (List Int)) (m : Int) : List Int := fltL n (wtBad n f g M m)
end Go.Proofs.YtpdgpgbgakinlaaGreat

namespace Go.Proofs.YtpdgpgbgakinlaaGreat
set_option linter.unusedVariables false
set_option linter.unusedSimpArgs false
def cstL (n : Nat) : List (List Int) := tabF n fun x _ => (x : Int)
theorem tabF_getD {n : Nat} {v : Nat → Nat → Int} {x y : Nat} (hx : x < n) (hy : y < n) : ((tabF n v).getD x []).getD y 0 = v x y := by
  rw [tabF_get n v x hx]; simp [List.getD_eq_getElem?_getD, List.getElem?_map, hy]
theorem tv_tab2 {n : Nat} {v : Nat → Nat → Int} {x y : Nat} (hx : x < n) (hy : y < n) : tv (tabF n v) x y = (v x y).toNat := by
  unfold tv; rw [tabF_getD hx hy]
theorem tabF_sq {n : Nat} {v : Nat → Nat → Int} (h : ∀ x y, x < n → y < n → 0 ≤ v x y ∧ v x y < n) : Sq n (tabF n v) := by
  refine ⟨tabF_len n v, fun x hx => ⟨?_, fun y hy => ?_⟩⟩
  · rw [tabF_get n v x hx]; simp
  · have := h x y hx hy
    rw [tv_tab2 hx hy, tabF_getD hx hy]
    omega
theorem Sq.eq_tabF {n : Nat} {t : List (List Int)} (h : Sq n t) : tabF n (fun x y => ((tv t x y : Nat) : Int)) = t := by
  apply List.ext_getElem
  · rw [tabF_len, h.len]
  · intro x h1 h2
    have hx : x < n := by rw [tabF_len] at h1; exact h1
    have e1 := tabF_get n (fun x y => ((tv t x y : Nat) : Int)) x hx
    rw [List.getD_eq_getElem?_getD, List.getElem?_eq_getElem h1] at e1
    simp only [Option.getD_some] at e1
    rw [e1]
    have hl := h.row hx
    have e2 : t.getD x [] = t[x] := by simp [List.getD_eq_getElem?_getD, List.getElem?_eq_getElem h2]
    rw [e2] at hl
    apply List.ext_getElem
    · simp [hl]
    · intro y g1 g2
      have hy : y < n := by simpa using g1
      have := h.val hx hy
      rw [e2, List.getD_eq_getElem?_getD, List.getElem?_eq_getElem g2] at this
      simp only [Option.getD_some] at this
      simp [this]
theorem sq_isTab {n : Nat} {t : List (List Int)} (h : Sq n t) (h1 : 1 ≤ n) (h2 : n ≤ 12) : isTab t = true := by
  unfold isTab
  rw [h.len, Bool.and_eq_true]
  refine ⟨by unfold rngB; simp; omega, ?_⟩
  rw [List.all_eq_true]
  intro r hr
  obtain ⟨x, hx, rfl⟩ := List.getElem_of_mem hr
  have hxn : x < n := by rw [h.len] at hx; exact hx
  have e2 : t.getD x [] = t[x] := by simp [List.getD_eq_getElem?_getD, List.getElem?_eq_getElem hx]
  have hl := h.row hxn
  rw [e2] at hl
  unfold rowOk
  rw [Bool.and_eq_true]
  refine ⟨by simp [hl], ?_⟩
  rw [List.all_eq_true]
  intro z hz
  obtain ⟨y, hy, rfl⟩ := List.getElem_of_mem hz
  have hv := h.val hxn (show y < n by omega)
  have hlt := h.lt hxn (show y < n by omega)
  rw [e2, List.getD_eq_getElem?_getD, List.getElem?_eq_getElem hy] at hv
  simp only [Option.getD_some] at hv
  rw [hv]
  unfold rngB
  simp
  omega
theorem allN_mk {n : Nat} {P : Nat → Bool} (h : ∀ k, k < n → P k = true) : allN n P = true := by
  unfold allN; rw [List.all_eq_true]; intro k hk; exact h k (List.mem_range.1 hk)
theorem cst_sq (n : Nat) : Sq n (cstL n) := tabF_sq fun x y hx hy => by omega
theorem tv_cst {n x y : Nat} (hx : x < n) (hy : y < n) : tv (cstL n) x y = x := by unfold cstL; rw [tv_tab2 hx hy]; simp
theorem perm_inj {n : Nat} {t : List (List Int)} (h : Sq n t) (hp : t.all permOk = true) {x y z : Nat} (hx : x < n) (hy : y < n) (hz : z < n) (e : tv t x y = tv t x z) : y = z := by
  have hxl : x < t.length := by rw [h.len]; exact hx
  have hm := List.all_eq_true.1 hp t[x] (List.getElem_mem hxl)
  have e2 : t.getD x [] = t[x] := by simp [List.getD_eq_getElem?_getD, List.getElem?_eq_getElem hxl]
  have hl := h.row hx
  rw [e2] at hl
  have := (permOk_to hm).2 y z (by omega) (by omega)
  have v1 := h.val hx hy
  have v2 := h.val hx hz
  rw [e2] at v1 v2
  exact this (by rw [v1, v2, e])
theorem isRk_parts {t : List (List Int)} (h : isRk t = true) : isTab t = true ∧ t.all permOk = true ∧ rkOk t.length t = true := by
  unfold isRk at h
  rw [Bool.and_eq_true, Bool.and_eq_true] at h
  exact ⟨h.1, h.2.1, h.2.2⟩
theorem rk_isSol {t : List (List Int)} (h : isRk t = true) : isSol t (cstL t.length) = true := by
  obtain ⟨h1, h2, h3⟩ := isRk_parts h
  obtain ⟨n1, n2, sq⟩ := isTab_sq h1
  have hc := cst_sq t.length
  unfold isSol isPm
  rw [Bool.and_eq_true, Bool.and_eq_true, Bool.and_eq_true, Bool.and_eq_true]
  generalize hn : t.length = n at *
  refine ⟨⟨h1, sq_isTab hc n1 n2, by simp [hc.len]⟩, ?_, ?_⟩
  · unfold collOk
    refine allN_mk fun p hp => allN_mk fun q hq => ?_
    have a1 : p / n < n := Nat.div_lt_of_lt_mul hp
    have a2 : q / n < n := Nat.div_lt_of_lt_mul hq
    have b1 : p % n < n := Nat.mod_lt _ (by omega)
    have b2 : q % n < n := Nat.mod_lt _ (by omega)
    unfold collAt
    rw [tv_cst a1 b1, tv_cst a2 b2]
    by_cases e : p = q
    · simp [e]
    · simp only [e, decide_false, Bool.not_false, Bool.true_and, Bool.not_eq_true', Bool.and_eq_false_iff, decide_eq_false_iff_not]
      rw [← Classical.not_and_iff_not_or_not]
      rintro ⟨e1, e2⟩
      rw [← e2] at e1
      have := perm_inj sq h2 a1 b1 b2 e1
      apply e
      rw [← Nat.div_add_mod p n, ← Nat.div_add_mod q n, e2, this]
  · unfold eqOk
    refine allN_mk fun x hx => allN_mk fun y hy => allN_mk fun z hz => ?_
    have hr := allN_get (allN_get (allN_get h3 hx) hy) hz
    unfold rkAt at hr
    have hr := of_decide_eq_true hr
    have c1 := sq.lt hx hy
    have c2 := sq.lt hx hz
    have c3 := sq.lt hy hz
    unfold eqAt
    simp only [tv_cst hx hy, tv_cst hx hz, tv_cst hy hz, tv_cst c1 c2, tv_cst hx c3]
    simp [hr]
def qndOk (n : Nat) (t : List (List Int)) : Bool := allN n fun x => decide (tv t x x = x)
def knkL (n : Nat) (t : List (List Int)) : List Int := (List.range n).map fun x => ((tv t x x : Nat) : Int)
def incOk (L : List Int) : Bool := allN (L.length - 1) fun i => decide (L.getD i 0 < L.getD (i + 1) 0)
theorem knk_getD {n x : Nat} {t : List (List Int)} (h : x < n) : (knkL n t).getD x 0 = ((tv t x x : Nat) : Int) := by
  simp [knkL, List.getD_eq_getElem?_getD, List.getElem?_map, h]
theorem knk_len (n : Nat) (t : List (List Int)) : (knkL n t).length = n := by simp [knkL]
theorem inc_id {n : Nat} {L : List Int} (hl : L.length = n) (hb : ∀ i, i < n → 0 ≤ L.getD i 0 ∧ L.getD i 0 < n) : incOk L = true ↔ ∀ i, i < n → L.getD i 0 = i := by
  constructor
  · intro h
    have step : ∀ i, i + 1 < n → L.getD i 0 < L.getD (i + 1) 0 := fun i hi => by
      have := allN_get h (k := i) (by omega)
      exact of_decide_eq_true this
    have lo : ∀ i, i < n → (i : Int) ≤ L.getD i 0 := by
      intro i
      induction i with
      | zero => intro hi; have := hb 0 hi; omega
      | succ i ih => intro hi; have := ih (by omega); have := step i hi; omega
    have hi' : ∀ k i, i + k + 1 = n → L.getD i 0 ≤ i := by
      intro k
      induction k with
      | zero => intro i hi; have := hb i (by omega); omega
      | succ k ih => intro i hi; have := ih (i + 1) (by omega); have := step i (by omega); omega
    intro i hi
    have := lo i hi
    have := hi' (n - i - 1) i (by omega)
    omega
  · intro h
    refine allN_mk fun i hi => ?_
    rw [h i (by omega), h (i + 1) (by omega)]
    simp
    omega
theorem inc_knk {n : Nat} {t : List (List Int)} (h : Sq n t) : incOk (knkL n t) = qndOk n t := by
  rw [Bool.eq_iff_iff, inc_id (knk_len n t) (fun i hi => by rw [knk_getD hi]; have := h.lt hi hi; omega)]
  constructor
  · intro g
    refine allN_mk fun x hx => ?_
    have := g x hx
    rw [knk_getD hx] at this
    simp
    omega
  · intro g i hi
    have := of_decide_eq_true (allN_get g hi)
    rw [knk_getD hi, this]
def diaOk (n : Nat) (M : List (List Int)) : Bool := allN n fun x => decide (tv M x x = 0)
def qwOk (t : List (List Int)) (m : Int) (M : List (List Int)) : Bool := diaOk t.length M && (qndOk t.length t && decide (wtFlt t.length t (cstL t.length) M m = []))
def iqF (t : List (List Int)) (m : Int) (M : List (List Int)) : Bool × Int := if isRk t then (if isMx t.length m M then (qwOk t m M, 0) else (false, 2)) else (false, 1)
section
variable {t M : List (List Int)} {m : Int}
theorem iqF_0 (h : isRk t = false) : iqF t m M = (false, 1) := by unfold iqF; rw [h]; rfl
theorem iqF_1 (h : isRk t = true) (h1 : isMx t.length m M = false) : iqF t m M = (false, 2) := by unfold iqF; rw [h, h1]; rfl
theorem iqF_2 (h : isRk t = true) (h1 : isMx t.length m M = true) : iqF t m M = (qwOk t m M, 0) := by unfold iqF; rw [h, h1]; rfl
end
end Go.Proofs.YtpdgpgbgakinlaaGreat

namespace Go.Proofs.YtpdgpgbgakinlaaGreat
set_option maxRecDepth 100000
set_option linter.unusedVariables false
set_option linter.unusedSimpArgs false
open Go.RowKit
def FltN (ok : Bool) (W : World) (e : Ending) (w' : World) : Prop := ((ok = true ∧ e = .returned (.slice none 0 0)) ∨ (ok = false ∧ ∃ b c, e = .returned (.slice (some ⟨b, 0, none⟩) 3 c))) ∧ Below W.heap.size W w'
set_option maxHeartbeats 2000000 in
theorem isPermuted_any (a : Option Addr) (n c : Nat) (p : List Int) (w : World) (h1 : Row w a n p) (hm : n ≤ 1000000) :
    Calls Tryz.prog 147 #[.slice a n c] w fun e w' => e = .returned (.bool (permOk p)) ∧ Below w.heap.size w w' := by
  have hl := h1.len
  have HL := Lib.hid hl; clear hl
  go_enter Tryz.func147, Tryz.ntmps147
  go_wp2_with (at_make; refine makeBo rfl rfl rfl rfl (by omega) ?_; intro w1 ho hs hb)
  go_loopw [11] (fun i wr => ∃ k : Nat, k ≤ n ∧ i = .int .i64 k ∧ Hid (permTo p k) ∧ OwnBo wr w.heap.size (some ⟨w.heap.size, 0, none⟩) n n (seenL p n k) ∧ Below w.heap.size w wr) (fun i _ => n - (intOf i).toNat)
  case atStart => exact ⟨0, Nat.zero_le _, rfl, Lib.hid ⟨fun i h => absurd h (by omega), fun i j h => absurd h (by omega)⟩, by rw [seenL_zero]; exact ho, hb⟩
  case round =>
    clear ho hb
    obtain ⟨k, hk, rfl, hp, ho, hb⟩ := hrel
    by_cases hlt : k < n
    · have hr := h1.below hb
      obtain ⟨b, off, rfl, g1⟩ := hr.at k hlt
      have hx : k < p.length := by have := HL.out; omega
      have hpk : p.getD k 0 = p[k] := by simp [List.getD_eq_getElem?_getD, List.getElem?_eq_getElem hx]
      have wn : IntKind.i64.wrap ((n : Int) - 1) = (n : Int) - 1 := IntWalk.i64_in _ (by omega)
      cases hv : rngB 0 ((n : Int) - 1) (p.getD k 0) with
      | false =>
        have HC := Lib.hid (fun w => within_b (p.getD k 0) 0 ((n : Int) - 1) false hv w)
        have hno : permOk p = false := permOk_out hx (by have h := rngB_f hv; have := HL.out; omega)
        have HN := Lib.hid hno
        clear hv hno hpk
        generalize p.getD k 0 = V at *
        go_wp2_with fail
        refine (HC.out _).mono ?_
        rintro e w2 ⟨rfl, rfl⟩
        go_wp2
        go_ret
        exact ⟨ret_bool HN.out.symm, hb⟩
      | true =>
        have HC := Lib.hid (fun w => within_b (p.getD k 0) 0 ((n : Int) - 1) true hv w)
        have hin : 0 ≤ p.getD k 0 ∧ p.getD k 0 < p.length := by have h := rngB_t hv; have := HL.out; omega
        obtain ⟨X, hX⟩ : ∃ X : Nat, p.getD k 0 = X := ⟨(p.getD k 0).toNat, by omega⟩
        have hXn : X < n := by have := HL.out; omega
        obtain ⟨_, hc, hf⟩ := ho.cells
        have hc1 := hc X hXn
        have hf1 := hf X
        rw [seenL_get p n k X hXn] at hc1
        have HIN := Lib.hid hin
        rw [hX] at g1 HC
        clear hc hf hv hin
        cases hs : (p.take k).contains (X : Int) with
        | true =>
          rw [hs] at hc1
          obtain ⟨i, hi, e⟩ := seen_mem hs (by omega)
          have HN : Hid (permOk p = false) := Lib.hid (permOk_twice hx hi (by rw [e, hX]))
          clear hs e hX hpk
          go_wp2_with fail
          refine (HC.out _).mono ?_
          rintro e w2 ⟨rfl, rfl⟩
          go_wp2
          go_ret
          exact ⟨ret_bool HN.out.symm, hb⟩
        | false =>
          rw [hs] at hc1
          have HT : Hid (permTo p (k + 1)) := Lib.hid (permTo_succ hp.out HIN.out (by rw [hX]; exact not_seen hs (by omega)))
          have HSE : Hid ((seenL p n k).set X true = seenL p n (k + 1)) := Lib.hid (seenL_succ p n k X hx hXn (by rw [← hpk, hX]))
          clear hs hX hpk
          go_wp2_with fail
          refine (HC.out _).mono ?_
          rintro e w2 ⟨rfl, rfl⟩
          go_wp2
          go_roundw
          case rel => exact ⟨k + 1, by omega, by go_num, HT, by rw [← HSE.out]; exact ho.set X true, hb.setCell (by simp) _⟩
          case measure => simp [intOf]; omega
    · obtain rfl : k = n := by omega
      have HP : Hid (permOk p = true) := Lib.hid (permTo_ok (by rw [← HL.out]; exact hp.out))
      go_wp2
      go_ret
      exact ⟨ret_bool HP.out.symm, hb⟩
theorem permRows1_any (a : Option Addr) (n c : Nat) (p : List Int) (w : World) (h1 : Row w a n p) (hm : n ≤ 1000000) :
    Calls Tryz.prog 146 #[.slice a n c] w fun e w' => e = .returned (.bool (!permOk p)) ∧ Below w.heap.size w w' := by
  go_enter Tryz.func146, Tryz.ntmps146
  go_wp2_with fail
  refine (isPermuted_any _ _ _ p _ h1 hm).mono ?_
  rintro e w1 ⟨rfl, hb⟩
  go_wp2
  go_ret
  exact ⟨rfl, hb⟩
theorem ent_permRows1 : Ent 146 := fun _ _ => rfl
set_option maxHeartbeats 1000000 in
theorem permutationRows_any (a : Option Addr) (n c : Nat) (t : List (List Int)) (w : World) (h1 : Tbl w a n t) (hm : n ≤ 9223372036854775807) (hx : ∀ x ∈ t, x.length ≤ 1000000) :
    Calls Tryz.prog 102 #[.slice a n c] w fun e w' => e = .returned (.bool (t.all permOk)) ∧ Below w.heap.size w w' := by
  have hcl : ∀ x ∈ t, ∀ w1, Below w.heap.size w w1 → ∀ a' n' c', Row w1 a' n' x → n' ≤ 9223372036854775807 → Calls Tryz.prog 146 (#[.slice a' n' c'] ++ #[]) w1 fun e w' => e = .returned (.bool (!permOk x)) ∧ Below w.heap.size w w' := fun x hxm w1 hb a' n' c' hr _ =>
    (permRows1_any a' n' c' x w1 hr (by have := hx x hxm; have := hr.len; omega)).mono fun e w' ⟨he, hb'⟩ => ⟨he, below_th hb hb'⟩
  have HCL := Lib.hid hcl; clear hcl
  go_enter Tryz.func102, Tryz.ntmps102
  go_wp2_with fail
  refine (containsFunc_rows (fun w1 => Below w.heap.size w w1) 146 #[] (fun x => !permOk x) _ _ _ t _ (Below.refl _ _) (fun w1 h => h1.below h) hm ent_permRows1 HCL.out).mono ?_
  rintro e w1 ⟨rfl, hb⟩
  go_wp2
  go_ret
  exact ⟨ret_bool (by simp [List.any_eq_not_all_not]), hb⟩
set_option maxHeartbeats 4000000 in
theorem rackFault_any (a : Option Addr) (n c : Nat) (t : List (List Int)) (w : World) (h1 : Tbl w a n t) (hn1 : 1 ≤ n) (hn : n ≤ 12) (hf : Sq n t) :
    Calls Tryz.prog 103 #[.slice a n c] w (FltN (rkOk n t) w) := by
  obtain ⟨bf, of, A, O, C, rfl, gf⟩ := h1.grid hf hn1
  clear h1
  go_enter Tryz.func103, Tryz.ntmps103
  go_wp2
  go_loopw [10] (fun i wr => ∃ k : Nat, k ≤ n ∧ i = .int .i64 k ∧ Hid (allN k (fun x => allN n fun y => allN n fun z => rkAt t x y z) = true) ∧ ∃ m, wr = w.drewN m) (fun i _ => n - (intOf i).toNat)
  case atStart => exact ⟨0, Nat.zero_le _, rfl, Lib.hid rfl, 0, rfl⟩
  case round =>
    obtain ⟨x, hx, rfl, hx1, m1, rfl⟩ := hrel
    by_cases hlt : x < n
    · go_wp2
      go_loopw [14] (fun i wr => ∃ k : Nat, k ≤ n ∧ i = .int .i64 k ∧ Hid (allN k (fun y => allN n fun z => rkAt t x y z) = true) ∧ ∃ m, wr = w.drewN m) (fun i _ => n - (intOf i).toNat)
      case atStart => exact ⟨0, Nat.zero_le _, rfl, Lib.hid rfl, m1, rfl⟩
      case round =>
        obtain ⟨y, hy, rfl, hy1, m2, rfl⟩ := hrel
        by_cases hlty : y < n
        · go_wp2
          go_loopw [18] (fun i wr => ∃ k : Nat, k ≤ n ∧ i = .int .i64 k ∧ Hid (allN k (fun z => rkAt t x y z) = true) ∧ ∃ m, wr = w.drewN m) (fun i _ => n - (intOf i).toNat)
          case atStart => exact ⟨0, Nat.zero_le _, rfl, Lib.hid rfl, m2, rfl⟩
          case round =>
            obtain ⟨z, hz, rfl, hz1, m3, rfl⟩ := hrel
            by_cases hltz : z < n
            · have l1 := hf.lt hlty hltz
              have l2 := hf.lt hlt hlty
              have l3 := hf.lt hlt hltz
              obtain ⟨r1, k1⟩ := gf.look hlty hltz
              obtain ⟨r2, k2⟩ := gf.look hlt l1
              have k3 := gf.cell _ _ hlt hlty
              have k4 := gf.cell _ _ hlt hltz
              obtain ⟨r5, k5⟩ := gf.look l2 l3
              have hE : rkAt t x y z = decide (tv t x (tv t y z) = tv t (tv t x y) (tv t x z)) := rfl
              generalize tv t y z = q1 at *
              generalize tv t x y = q2 at *
              generalize tv t x z = q3 at *
              generalize tv t x q1 = A1 at *
              generalize tv t q2 q3 = A2 at *
              have HE := Lib.hid hE
              clear hE gf hf
              by_cases p1 : A1 = A2
              · have u1 : ((A1 : Int) != (A2 : Int)) = false := by simp [p1]
                have HE2 : Hid (rkAt t x y z = true) := Lib.hid (by rw [HE.out]; simp [p1])
                clear p1
                go_wp2
                go_quiet (fail)
                go_wp2
                go_roundw
                case rel => exact ⟨z + 1, by omega, by go_num, Lib.hid (allN_succ hz1.out HE2.out), _, rfl⟩
                case measure => simp [intOf]; omega
              · have u1 : ((A1 : Int) != (A2 : Int)) = true := by simp; omega
                have HE2 : Hid (rkAt t x y z = false) := Lib.hid (by rw [HE.out]; simp [p1])
                clear p1
                go_wp2
                go_quiet (fail)
                go_wp2
                go_ret
                exact ⟨.inr ⟨allN_no hlt (allN_no hlty (allN_no hltz HE2.out)), _, _, rfl⟩, below_al (below_drewN (Below.refl _ _) _) _⟩
            · obtain rfl : z = n := by omega
              go_wp2
              go_roundw
              case rel => exact ⟨y + 1, by omega, by go_num, Lib.hid (allN_succ hy1.out hz1.out), _, rfl⟩
              case measure => simp [intOf]; omega
        · obtain rfl : y = n := by omega
          go_wp2
          go_roundw
          case rel => exact ⟨x + 1, by omega, by go_num, Lib.hid (allN_succ hx1.out hy1.out), _, rfl⟩
          case measure => simp [intOf]; omega
    · obtain rfl : x = n := by omega
      go_wp2
      go_ret
      exact ⟨.inl ⟨hx1.out, rfl⟩, below_drewN (Below.refl _ _) _⟩
theorem isRk_no {t : List (List Int)} (h : isTab t = false) : isRk t = false := by unfold isRk; rw [h]; rfl
set_option maxHeartbeats 1000000 in
theorem isRack_any (a : Option Addr) (n c : Nat) (t : List (List Int)) (w : World) (h1 : Tbl w a n t) (hm : n ≤ 9223372036854775807) :
    Calls Tryz.prog 59 #[rAgg a n c] w fun e w' => e = .returned (.bool (isRk t)) ∧ Below w.heap.size w w' := by
  have hA := Loc.new w rfl #[.slice a n c] 45
  cases hf : isTab t with
  | false =>
    have HQ : Hid (isRk t = false) := Lib.hid (isRk_no hf)
    have HF := Lib.hid hf; clear hf
    go_enter Tryz.func59, Tryz.ntmps59
    go_wp2_with fail
    refine (isTable_any _ _ _ _ _ (h1.alloc _) hm).mono ?_
    rintro e w1 ⟨rfl, hb1⟩
    rw [HF.out]
    go_wp2
    go_ret
    exact ⟨ret_bool HQ.out.symm, below_alth (Below.refl _ _) hb1⟩
  | true =>
    obtain ⟨hn1, hn12, sf⟩ := isTab_sq hf
    have hl := h1.len
    rw [← hl] at hn1 hn12 sf
    have hrow : ∀ x ∈ t, x.length ≤ 1000000 := by
      intro x hx
      obtain ⟨i, hi, e⟩ := List.getElem_of_mem hx
      have := sf.row (x := i) (by omega)
      rw [Tbl.getD hi, e] at this
      omega
    have HR := Lib.hid hrow
    have HQ : Hid (isRk t = (t.all permOk && rkOk n t)) := Lib.hid (by unfold isRk; rw [hf, ← hl]; rfl)
    have HF := Lib.hid hf; have HSF := Lib.hid sf
    clear hf sf hl hrow
    cases hp : t.all permOk with
    | false =>
      have HP := Lib.hid hp; clear hp
      go_enter Tryz.func59, Tryz.ntmps59
      go_wp2_with fail
      refine (isTable_any _ _ _ _ _ (h1.alloc _) hm).mono ?_
      rintro e w1 ⟨rfl, hb1⟩
      rw [HF.out]
      have lA := (hA.below hb1 (by simp)).one
      go_wp2_with fail
      refine (permutationRows_any _ _ _ t _ ((h1.alloc _).below hb1) hm HR.out).mono ?_
      rintro e w2 ⟨rfl, hb2⟩
      rw [HP.out]
      go_wp2
      go_ret
      exact ⟨ret_bool (by rw [HQ.out, HP.out]; rfl), below_th (below_alth (Below.refl _ _) hb1) hb2⟩
    | true =>
      have HP := Lib.hid hp; clear hp
      have nn := fun (w : World) (a : Option Addr) (n c : Nat) => Lib.run_eql_slice_nil (P := Tryz.prog) w 27 2 a n c 0 0 und_ints
      go_enter Tryz.func59, Tryz.ntmps59
      go_wp2_with fail
      refine (isTable_any _ _ _ _ _ (h1.alloc _) hm).mono ?_
      rintro e w1 ⟨rfl, hb1⟩
      rw [HF.out]
      have hA1 := hA.below hb1 (by simp)
      have lA := hA1.one
      have hB1 := below_alth (Below.refl _ _) hb1
      have t1 := (h1.alloc _).below hb1
      clear hb1
      go_wp2_with fail
      refine (permutationRows_any _ _ _ t _ t1 hm HR.out).mono ?_
      rintro e w2 ⟨rfl, hb2⟩
      rw [HP.out]
      have lA2 := (hA1.below hb2 hA1.lt).one
      go_wp2_with fail
      refine (rackFault_any _ _ _ t _ (t1.below hb2) hn1 hn12 HSF.out).mono ?_
      rintro e w3 ⟨he, hb3⟩
      rcases he with ⟨hc, rfl⟩ | ⟨hc, b, k, rfl⟩
      · have HD := Lib.hid hc; clear hc
        go_wp2
        go_ret
        exact ⟨ret_bool (by rw [HQ.out, HP.out, HD.out]; rfl), below_th (below_th hB1 hb2) hb3⟩
      · have HD := Lib.hid hc; clear hc
        go_wp2
        go_ret
        exact ⟨ret_bool (by rw [HQ.out, HP.out, HD.out]; rfl), below_th (below_th hB1 hb2) hb3⟩
end Go.Proofs.YtpdgpgbgakinlaaGreat
