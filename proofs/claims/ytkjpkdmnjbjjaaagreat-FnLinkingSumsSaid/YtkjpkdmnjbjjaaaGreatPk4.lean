/-
  Walks and plain laws of this seat, some texts in one.
  No condition but bounds on lengths.
-/
import Derived.Test.YtkjpkdmnjbjjaaaGreatPk2
import Derived.Test.YtkjpkdmnjbjjaaaGreatPk3
namespace Go.Proofs.YtkjpkdmnjbjjaaaGreat
set_option linter.unusedVariables false
set_option linter.unusedSimpArgs false
theorem inj_surj (N : Nat) : ∀ (f : Nat → Nat), (∀ i, i < N → f i < N) → (∀ i j, i < N → j < N → f i = f j → i = j) → ∀ j, j < N → ∃ i, i < N ∧ f i = j := by
  induction N with
  | zero => intro f _ _ j hj; omega
  | succ N ih =>
    intro f hlt hinj j hj
    by_cases hm : f N = j
    · exact ⟨N, by omega, hm⟩
    · have hne : ∀ i, i < N → f i ≠ f N := fun i hi e => by have := hinj i N (by omega) (by omega) e; omega
      have hNlt := hlt N (by omega)
      obtain ⟨F, hF⟩ : ∃ F : Nat → Nat, ∀ i, F i = if f i = N then f N else f i := ⟨_, fun _ => rfl⟩
      have h1 : ∀ i, i < N → F i < N := by
        intro i hi
        have a := hlt i (by omega)
        have b := hne i hi
        rw [hF]
        by_cases e : f i = N
        · rw [if_pos e]; omega
        · rw [if_neg e]; omega
      have h2 : ∀ i k, i < N → k < N → F i = F k → i = k := by
        intro i k hi hk e
        rw [hF, hF] at e
        have b1 := hne i hi
        have b2 := hne k hk
        by_cases e1 : f i = N
        · by_cases e2 : f k = N
          · exact hinj i k (by omega) (by omega) (by omega)
          · rw [if_pos e1, if_neg e2] at e; omega
        · by_cases e2 : f k = N
          · rw [if_neg e1, if_pos e2] at e; omega
          · rw [if_neg e1, if_neg e2] at e; exact hinj i k (by omega) (by omega) e
      by_cases hjN : j = N
      · subst hjN
        obtain ⟨i, hi, e⟩ := ih F h1 h2 (f j) (by omega)
        rw [hF] at e
        by_cases e1 : f i = j
        · exact ⟨i, by omega, e1⟩
        · rw [if_neg e1] at e; exact absurd e (hne i hi)
      · obtain ⟨i, hi, e⟩ := ih F h1 h2 j (by omega)
        rw [hF] at e
        by_cases e1 : f i = N
        · rw [if_pos e1] at e; exact absurd e hm
        · rw [if_neg e1] at e; exact ⟨i, by omega, e⟩
theorem pair_div {n x y : Nat} (hn : 1 ≤ n) (hy : y < n) : (x * n + y) / n = x := by
  rw [Nat.mul_comm, Nat.mul_add_div (by omega), Nat.div_eq_of_lt hy, Nat.add_zero]
theorem pair_mod {n x y : Nat} (hy : y < n) : (x * n + y) % n = y := by
  rw [Nat.mul_comm, Nat.mul_add_mod, Nat.mod_eq_of_lt hy]
theorem pair_lt {n x y : Nat} (hx : x < n) (hy : y < n) : x * n + y < n * n := by
  have : (x + 1) * n ≤ n * n := Nat.mul_le_mul_right n hx
  have e : (x + 1) * n = x * n + n := by rw [Nat.add_mul]; simp
  omega
def prN (n : Nat) (f g : List (List Int)) (u v : Nat) : Nat := ((List.range (n * n)).find? fun p => decide (tv f (p / n) (p % n) = u) && decide (tv g (p / n) (p % n) = v)).getD 0
theorem coll_inj {n : Nat} {f g : List (List Int)} (hc : collOk n f g = true) {p q : Nat} (hp : p < n * n) (hq : q < n * n) (h1 : tv f (p / n) (p % n) = tv f (q / n) (q % n)) (h2 : tv g (p / n) (p % n) = tv g (q / n) (q % n)) : p = q := by
  have := allN_get (allN_get hc hp) hq
  unfold collAt at this
  by_cases e : p = q
  · exact e
  · simp [e, h1, h2] at this
theorem prN_eq {n : Nat} {f g : List (List Int)} (hn : 1 ≤ n) (hc : collOk n f g = true) {x y u v : Nat} (hx : x < n) (hy : y < n) (h1 : tv f x y = u) (h2 : tv g x y = v) : prN n f g u v = x * n + y := by
  unfold prN
  have hlt := pair_lt hx hy
  have hP : (fun p => decide (tv f (p / n) (p % n) = u) && decide (tv g (p / n) (p % n) = v)) (x * n + y) = true := by
    show (decide (tv f ((x * n + y) / n) ((x * n + y) % n) = u) && decide (tv g ((x * n + y) / n) ((x * n + y) % n) = v)) = true
    rw [pair_div hn hy, pair_mod hy]; simp [h1, h2]
  cases hq : (List.range (n * n)).find? (fun p => decide (tv f (p / n) (p % n) = u) && decide (tv g (p / n) (p % n) = v)) with
  | none => rw [List.find?_eq_none] at hq; exact absurd hP (hq _ (List.mem_range.2 hlt))
  | some q =>
    have h3 := List.find?_some hq
    have h4 := List.mem_range.1 (List.mem_of_find?_eq_some hq)
    rw [Bool.and_eq_true, decide_eq_true_iff, decide_eq_true_iff] at h3
    show q = _
    refine coll_inj hc h4 hlt ?_ ?_
    · rw [pair_div hn hy, pair_mod hy, h1]; exact h3.1
    · rw [pair_div hn hy, pair_mod hy, h2]; exact h3.2
theorem pr_ex {n : Nat} {f g : List (List Int)} (hn : 1 ≤ n) (hf : Sq n f) (hg : Sq n g) (hc : collOk n f g = true) {u v : Nat} (hu : u < n) (hv : v < n) : ∃ x y, x < n ∧ y < n ∧ tv f x y = u ∧ tv g x y = v := by
  obtain ⟨p, hp, e⟩ := inj_surj (n * n) (fun p => tv f (p / n) (p % n) * n + tv g (p / n) (p % n))
    (fun p hp => pair_lt (hf.lt (div_lt_sq hp) (Nat.mod_lt _ hn)) (hg.lt (div_lt_sq hp) (Nat.mod_lt _ hn)))
    (fun p q hp hq e => by
      have bp := hg.lt (div_lt_sq hp) (Nat.mod_lt p hn)
      have bq := hg.lt (div_lt_sq hq) (Nat.mod_lt q hn)
      have e1 := congrArg (· / n) e
      have e2 := congrArg (· % n) e
      simp only [pair_div hn bp, pair_div hn bq, pair_mod bp, pair_mod bq] at e1 e2
      exact coll_inj hc hp hq e1 e2)
    (u * n + v) (pair_lt hu hv)
  have bp := hg.lt (div_lt_sq hp) (Nat.mod_lt p hn)
  have e1 := congrArg (· / n) e
  have e2 := congrArg (· % n) e
  simp only [pair_div hn bp, pair_mod bp, pair_div hn hv, pair_mod hv] at e1 e2
  exact ⟨p / n, p % n, div_lt_sq hp, Nat.mod_lt _ hn, e1, e2⟩
def bfT (n : Nat) (f g : List (List Int)) : List (List Int) := tabF n fun u v => ((prN n f g u v / n : Nat) : Int)
def bgT (n : Nat) (f g : List (List Int)) : List (List Int) := tabF n fun u v => ((prN n f g u v % n : Nat) : Int)
theorem tv_tabF (n : Nat) (V : Nat → Nat → Int) {x y : Nat} (hx : x < n) (hy : y < n) : ((tabF n V).getD x []).getD y 0 = V x y := by
  rw [tabF_get n V x hx]
  simp [List.getD_eq_getElem?_getD, List.getElem?_map, hy]
theorem Sq.tab {n : Nat} {V : Nat → Nat → Nat} (h : ∀ x y, x < n → y < n → V x y < n) : Sq n (tabF n fun x y => ((V x y : Nat) : Int)) := by
  refine ⟨tabF_len _ _, fun x hx => ⟨by rw [tabF_get _ _ x hx]; simp, fun y hy => ?_⟩⟩
  unfold tv
  rw [tv_tabF n _ hx hy]
  simp [h x y hx hy]
theorem tv_tab {n : Nat} {V : Nat → Nat → Nat} {x y : Nat} (hx : x < n) (hy : y < n) : tv (tabF n fun x y => ((V x y : Nat) : Int)) x y = V x y := by
  unfold tv; rw [tv_tabF n _ hx hy]; simp
theorem prN_lt {n : Nat} {f g : List (List Int)} (hn : 1 ≤ n) (hf : Sq n f) (hg : Sq n g) (hc : collOk n f g = true) {u v : Nat} (hu : u < n) (hv : v < n) : prN n f g u v < n * n := by
  obtain ⟨x, y, hx, hy, h1, h2⟩ := pr_ex hn hf hg hc hu hv
  rw [prN_eq hn hc hx hy h1 h2]; exact pair_lt hx hy
theorem bf_sq {n : Nat} {f g : List (List Int)} (hn : 1 ≤ n) (hf : Sq n f) (hg : Sq n g) (hc : collOk n f g = true) : Sq n (bfT n f g) := Sq.tab fun u v hu hv => div_lt_sq (prN_lt hn hf hg hc hu hv)
theorem bg_sq {n : Nat} {f g : List (List Int)} (hn : 1 ≤ n) : Sq n (bgT n f g) := Sq.tab fun u v hu hv => Nat.mod_lt _ hn
theorem bf_tv {n : Nat} {f g : List (List Int)} (hn : 1 ≤ n) (hc : collOk n f g = true) {x y u v : Nat} (hx : x < n) (hy : y < n) (hu : u < n) (hv : v < n) (h1 : tv f x y = u) (h2 : tv g x y = v) : tv (bfT n f g) u v = x := by
  unfold bfT; rw [tv_tab hu hv, prN_eq hn hc hx hy h1 h2, pair_div hn hy]
theorem bg_tv {n : Nat} {f g : List (List Int)} (hn : 1 ≤ n) (hc : collOk n f g = true) {x y u v : Nat} (hx : x < n) (hy : y < n) (hu : u < n) (hv : v < n) (h1 : tv f x y = u) (h2 : tv g x y = v) : tv (bgT n f g) u v = y := by
  unfold bgT; rw [tv_tab hu hv, prN_eq hn hc hx hy h1 h2, pair_mod hy]
theorem isSol_coll {f g : List (List Int)} (h : isSol f g = true) : collOk f.length f g = true := by
  unfold isSol at h; rw [Bool.and_eq_true, Bool.and_eq_true] at h; exact h.2.1
def stepL (n : Nat) (f g : List (List Int)) (x : Int) (l : List Int) : List Int := if 0 < x then doF f g (plc x).toNat l else doF (bfT n f g) (bgT n f g) (plc x).toNat l
def actL (n : Nat) (f g : List (List Int)) (xs : List Int) (l : List Int) : List Int := xs.foldl (fun l x => stepL n f g x l) l
theorem stepL_len (n : Nat) (f g : List (List Int)) (x : Int) (l : List Int) : (stepL n f g x l).length = l.length := by
  unfold stepL; split <;> exact doF_len _ _ _ _
theorem actL_take (n : Nat) (f g : List (List Int)) (xs : List Int) (l : List Int) (k : Nat) (h : k < xs.length) : actL n f g (xs.take (k + 1)) l = stepL n f g xs[k] (actL n f g (xs.take k) l) := by
  unfold actL; rw [List.take_succ_eq_append_getElem h, List.foldl_append]; rfl
theorem actL_len (n : Nat) (f g : List (List Int)) (xs : List Int) (l : List Int) : (actL n f g xs l).length = l.length := by
  unfold actL
  induction xs generalizing l with
  | nil => rfl
  | cons x r ih => rw [List.foldl_cons, ih, stepL_len]
theorem Less.step {n : Nat} {f g : List (List Int)} {l : List Int} (hn : 1 ≤ n) (hf : Sq n f) (hg : Sq n g) (hc : collOk n f g = true) (h : Less n l) (x : Int) (hx : (plc x).toNat + 1 < l.length) : Less n (stepL n f g x l) := by
  unfold stepL
  split
  · exact h.do_ hf hg _ hx
  · exact h.do_ (bf_sq hn hf hg hc) (bg_sq hn) _ hx
theorem Less.act {n : Nat} {f g : List (List Int)} {l : List Int} (hn : 1 ≤ n) (hf : Sq n f) (hg : Sq n g) (hc : collOk n f g = true) (h : Less n l) (xs : List Int) (hx : ∀ x ∈ xs, (plc x).toNat + 1 < l.length) : Less n (actL n f g xs l) := by
  unfold actL
  induction xs generalizing l with
  | nil => exact h
  | cons x r ih =>
    rw [List.foldl_cons]
    exact ih (h.step hn hf hg hc x (hx x (by simp))) (fun y hy => by rw [stepL_len]; exact hx y (by simp [hy]))
end Go.Proofs.YtkjpkdmnjbjjaaaGreat

namespace Go.Proofs.YtkjpkdmnjbjjaaaGreat
set_option linter.unusedVariables false
set_option linter.unusedSimpArgs false
def digL (n k N : Nat) : List Int := (List.range k).map fun i => ((N / n ^ (k - 1 - i) % n : Nat) : Int)
def digP (n k N j : Nat) : List Int := (List.range k).map fun i => if k ≤ i + j then ((N / n ^ (k - 1 - i) % n : Nat) : Int) else 0
theorem digL_len (n k N : Nat) : (digL n k N).length = k := by simp [digL]
theorem digP_zero (n k N : Nat) : digP n k N 0 = List.replicate k 0 := by
  apply List.ext_getElem
  · simp [digP]
  · intro i h1 h2
    have hi : i < k := by simpa [digP] using h1
    simp [digP]; omega
theorem digP_full (n k N : Nat) : digP n k N k = digL n k N := by
  unfold digP digL
  apply List.map_congr_left
  intro i hi
  rw [if_pos (by omega)]
theorem digP_step (n k N j : Nat) (hj : j < k) : (digP n k N j).set (k - 1 - j) ((N / n ^ j % n : Nat) : Int) = digP n k N (j + 1) := by
  apply List.ext_getElem
  · simp [digP]
  · intro i h1 h2
    have hi : i < k := by simpa [digP] using h2
    rw [List.getElem_set]
    by_cases e : k - 1 - j = i
    · rw [if_pos e]
      simp only [digP, List.getElem_map, List.getElem_range]
      rw [if_pos (by omega)]
      have : k - 1 - i = j := by omega
      rw [this]
    · rw [if_neg e]
      simp only [digP, List.getElem_map, List.getElem_range]
      by_cases e2 : k ≤ i + j
      · rw [if_pos e2, if_pos (by omega)]
      · rw [if_neg e2, if_neg (by omega)]
theorem digL_less (n k N : Nat) (hn : 1 ≤ n) : Less n (digL n k N) := by
  intro i hi
  have hi' : i < k := by rw [digL_len] at hi; exact hi
  refine ⟨N / n ^ (k - 1 - i) % n, Nat.mod_lt _ hn, ?_⟩
  rw [List.getD_eq_getElem?_getD, List.getElem?_eq_getElem hi]
  simp [digL]
theorem div_pow_succ (n j N : Nat) : N / n ^ j / n = N / n ^ (j + 1) := by rw [Nat.div_div_eq_div_mul, Nat.pow_succ]
def fltL (n : Nat) (P : List Int → Bool) : List Int := match (List.range (n * n * n)).find? (fun N => P (digL n 3 N)) with | some N => digL n 3 N | none => []
theorem fltL_hit {n N : Nat} {P : List Int → Bool} (hN : N < n * n * n) (h1 : ∀ M, M < N → P (digL n 3 M) = false) (h2 : P (digL n 3 N) = true) : fltL n P = digL n 3 N := by
  have : (List.range (n * n * n)).find? (fun N => P (digL n 3 N)) = some N := by
    rw [List.find?_range_eq_some]
    exact ⟨h2, List.mem_range.2 hN, fun j hj => by simp [h1 j hj]⟩
  unfold fltL; rw [this]
theorem fltL_miss {n : Nat} {P : List Int → Bool} (h1 : ∀ M, M < n * n * n → P (digL n 3 M) = false) : fltL n P = [] := by
  have : (List.range (n * n * n)).find? (fun N => P (digL n 3 N)) = none := by
    rw [List.find?_eq_none]
    intro N hN
    rw [h1 N (List.mem_range.1 hN)]; simp
  unfold fltL; rw [this]
end Go.Proofs.YtkjpkdmnjbjjaaaGreat

namespace Go.Proofs.YtkjpkdmnjbjjaaaGreat
set_option maxRecDepth 100000
set_option linter.unusedVariables false
set_option linter.unusedSimpArgs false
open Go.RowKit
def isMx (n m : Int) (f : List (List Int)) : Bool := rngB 1 12 m && (decide ((f.length : Int) = n) && f.all (rowOk n m))
set_option maxHeartbeats 400000 in
theorem isShift_any (N m : Int) (a : Option Addr) (n c : Nat) (xs : List Int) (w : World) (h1 : Row w a n xs) (hm : n ≤ 9223372036854775807) :
    Calls Tryz.prog 119 #[.int .i64 N, .int .i64 m, .slice a n c] w fun e w' => e = .returned (.bool (rngB 1 12 m && rowOk N m xs)) ∧ w = w' := by
  have hl := h1.len
  cases hp : rngB 1 12 m with
  | false =>
    have HC := Lib.hid (fun w => within_b m 1 12 false hp w); clear hp hl
    go_enter Tryz.func119, Tryz.ntmps119
    go_wp2_with fail
    refine (HC.out _).mono ?_
    rintro e w' ⟨rfl, rfl⟩
    go_wp2
    go_ret
    exact ⟨ret_bool (by simp), rfl⟩
  | true =>
    have HC := Lib.hid (fun w => within_b m 1 12 true hp w)
    have hmm : 1 ≤ m ∧ m ≤ 12 := by simpa [rngB] using hp
    clear hp
    by_cases hn : (n : Int) = N
    · have b1 : ((n : Int) == N) = true := by simpa using hn
      have hq : rowOk N m xs = xs.all (rngB 0 (m - 1)) := by simp [rowOk, ← hl, hn]
      have HQ := Lib.hid hq; have HA := Lib.hid (fun w hr => allWithin_any a n c xs 0 (m - 1) w hr hm); clear hq hl hn
      go_enter Tryz.func119, Tryz.ntmps119
      go_wp2_with fail
      refine (HC.out _).mono ?_
      rintro e w' ⟨rfl, rfl⟩
      go_wp2_with fail
      refine (HA.out _ h1).mono ?_
      rintro e w' ⟨rfl, rfl⟩
      go_wp2
      go_ret
      exact ⟨ret_bool (by rw [HQ.out]; simp), rfl⟩
    · have b1 : ((n : Int) == N) = false := by simpa using hn
      have hq : rowOk N m xs = false := by simp [rowOk, ← hl, hn]
      have HQ := Lib.hid hq; clear hq hl hn
      go_enter Tryz.func119, Tryz.ntmps119
      go_wp2_with fail
      refine (HC.out _).mono ?_
      rintro e w' ⟨rfl, rfl⟩
      go_wp2
      go_ret
      exact ⟨ret_bool (by rw [HQ.out]; simp), rfl⟩
set_option maxHeartbeats 400000 in
theorem isMatrix1_any (N m : Int) (b1 b2 : Nat) (t1 t2 : TypeId) (a : Option Addr) (n c : Nat) (xs : List Int) (w : World) (hL1 : Loc w b1 #[.int .i64 N] t1) (hL2 : Loc w b2 #[.int .i64 m] t2) (h1 : Row w a n xs) (hm : n ≤ 9223372036854775807) (hmm : rngB 1 12 m = true) :
    Calls Tryz.prog 165 #[.slice a n c, .pointer (some ⟨b1, 0, none⟩), .pointer (some ⟨b2, 0, none⟩)] w fun e w' => e = .returned (.bool (!rowOk N m xs)) ∧ w = w' := by
  have l1 := hL1.one
  have l2 := hL2.one
  have hc := isShift_any N m a n c xs w h1 hm
  rw [hmm, Bool.true_and] at hc
  have HC := Lib.hid hc; clear hc hmm
  go_enter Tryz.func165, Tryz.ntmps165
  go_wp2_with fail
  refine HC.out.mono ?_
  rintro e w' ⟨rfl, rfl⟩
  go_wp2
  go_ret
  exact ⟨rfl, rfl⟩
theorem ent_isMatrix1 : Ent 165 := fun _ _ => rfl
set_option maxHeartbeats 1000000 in
theorem isMatrix_any (N m : Int) (a : Option Addr) (n c : Nat) (xs : List (List Int)) (w : World) (h1 : Tbl w a n xs) (hm : n ≤ 9223372036854775807) :
    Calls Tryz.prog 96 #[.int .i64 N, .int .i64 m, .slice a n c] w fun e w' => e = .returned (.bool (isMx N m xs)) ∧ Below w.heap.size w w' := by
  have hl := h1.len
  have hB := below_al (below_al (Below.refl w.heap.size w) (.cells #[.int .i64 N] 3)) (.cells #[.int .i64 m] 2)
  cases hp : rngB 1 12 m with
  | false =>
    have hq : isMx N m xs = false := by simp [isMx, hp]
    have HQ := Lib.hid hq
    have HC := Lib.hid (fun w => within_b m 1 12 false hp w); clear hp hl hq
    go_enter Tryz.func96, Tryz.ntmps96
    go_wp2_with fail
    refine (HC.out _).mono ?_
    rintro e w' ⟨rfl, rfl⟩
    go_wp2
    go_ret
    exact ⟨ret_bool HQ.out.symm, hB⟩
  | true =>
    have HC := Lib.hid (fun w => within_b m 1 12 true hp w)
    have HP := Lib.hid hp
    by_cases hn : (n : Int) = N
    · have b1 : ((n : Int) == N) = true := by simpa using hn
      have hq : isMx N m xs = xs.all (rowOk N m) := by simp [isMx, hp, ← hl, hn]
      have HQ := Lib.hid hq; clear hq hl hn hp
      have hcl : ∀ x ∈ xs, ∀ w1, ((w.alloc (.cells #[.int .i64 N] 3)).alloc (.cells #[.int .i64 m] 2)) = w1 → ∀ a' n' c', Row w1 a' n' x → n' ≤ 9223372036854775807 → Calls Tryz.prog 165 (#[.slice a' n' c'] ++ #[.pointer (some ⟨w.heap.size, 0, none⟩), .pointer (some ⟨w.heap.size + 1, 0, none⟩)]) w1 fun e w' => e = .returned (.bool (!rowOk N m x)) ∧ ((w.alloc (.cells #[.int .i64 N] 3)).alloc (.cells #[.int .i64 m] 2)) = w' := fun x hx w1 hw1 a' n' c' hr hn' => by
        subst hw1
        exact isMatrix1_any N m _ _ _ _ a' n' c' x _ ((Loc.new _ rfl _ _).alloc _) (Loc.new _ (by simp) _ _) hr hn' HP.out
      have HCL := Lib.hid hcl; clear hcl
      go_enter Tryz.func96, Tryz.ntmps96
      go_wp2_with fail
      refine (HC.out _).mono ?_
      rintro e w' ⟨rfl, rfl⟩
      go_wp2_with fail
      refine (containsFunc_rows (fun w1 => ((w.alloc (.cells #[.int .i64 N] 3)).alloc (.cells #[.int .i64 m] 2)) = w1) 165 _ (fun x => !rowOk N m x) _ _ _ xs _ rfl (fun w1 h => h ▸ (h1.alloc _).alloc _) hm ent_isMatrix1 HCL.out).mono ?_
      rintro e w' ⟨rfl, rfl⟩
      go_wp2
      go_ret
      refine ⟨ret_bool ?_, hB⟩
      rw [HQ.out]
      simp [List.any_eq_not_all_not]
    · have b1 : ((n : Int) == N) = false := by simpa using hn
      have hq : isMx N m xs = false := by simp [isMx, ← hl, hn]
      have HQ := Lib.hid hq; clear hq hl hn hp
      go_enter Tryz.func96, Tryz.ntmps96
      go_wp2_with fail
      refine (HC.out _).mono ?_
      rintro e w' ⟨rfl, rfl⟩
      go_wp2
      go_ret
      exact ⟨ret_bool HQ.out.symm, hB⟩
end Go.Proofs.YtkjpkdmnjbjjaaaGreat

namespace Go.Proofs.YtkjpkdmnjbjjaaaGreat
set_option linter.unusedVariables false
set_option linter.unusedSimpArgs false
def SqM (n m : Nat) (t : List (List Int)) : Prop := t.length = n ∧ ∀ x, x < n → (t.getD x []).length = n ∧ ∀ y, y < n → tv t x y < m ∧ (t.getD x []).getD y 0 = ((tv t x y : Nat) : Int)
theorem isMx_sq {n : Nat} {m : Int} {t : List (List Int)} (h : isMx n m t = true) : (1 ≤ m ∧ m ≤ 12) ∧ SqM n m.toNat t := by
  unfold isMx at h
  rw [Bool.and_eq_true, Bool.and_eq_true] at h
  obtain ⟨h1, h2, h3⟩ := h
  have hm : 1 ≤ m ∧ m ≤ 12 := by unfold rngB at h1; simpa using h1
  have hl : t.length = n := by have := of_decide_eq_true h2; omega
  refine ⟨hm, hl, fun x hx => ?_⟩
  have hxl : x < t.length := by omega
  have hr := List.all_eq_true.1 h3 t[x] (List.getElem_mem hxl)
  have e : t.getD x [] = t[x] := by simp [List.getD_eq_getElem?_getD, List.getElem?_eq_getElem hxl]
  obtain ⟨h4, h5⟩ := rowOk_get hr
  rw [e]
  refine ⟨by omega, fun y hy => ?_⟩
  have := h5 y (by omega)
  unfold tv
  rw [e]
  omega
def wtT (M : List (List Int)) (m : Int) (x : Int) (l r : List Int) : Int :=
  if 0 < x then ((tv M (l.getD (plc x).toNat 0).toNat (l.getD ((plc x).toNat + 1) 0).toNat : Nat) : Int)
  else m - ((tv M (r.getD (plc x).toNat 0).toNat (r.getD ((plc x).toNat + 1) 0).toNat : Nat) : Int)
def wtS (n : Nat) (f g M : List (List Int)) (m : Int) : List Int → List Int → Int
  | [], _ => 0
  | x :: xs, l => wtT M m x l (stepL n f g x l) + wtS n f g M m xs (stepL n f g x l)
theorem wtS_append (n : Nat) (f g M : List (List Int)) (m : Int) (xs ys l : List Int) : wtS n f g M m (xs ++ ys) l = wtS n f g M m xs l + wtS n f g M m ys (actL n f g xs l) := by
  induction xs generalizing l with
  | nil => simp [wtS, actL]
  | cons x r ih =>
    simp only [List.cons_append, wtS]
    rw [ih]
    show _ = _ + wtS n f g M m ys (actL n f g r (stepL n f g x l))
    omega
theorem wtS_take (n : Nat) (f g M : List (List Int)) (m : Int) (xs l : List Int) (k : Nat) (h : k < xs.length) :
    wtS n f g M m (xs.take (k + 1)) l = wtS n f g M m (xs.take k) l + wtT M m xs[k] (actL n f g (xs.take k) l) (actL n f g (xs.take (k + 1)) l) := by
  rw [actL_take n f g xs l k h, List.take_succ_eq_append_getElem h, wtS_append]
  simp [wtS]
theorem wtT_bd {n : Nat} {M : List (List Int)} {m : Int} (hM : SqM n m.toNat M) (hm : 1 ≤ m ∧ m ≤ 12) {x : Int} {l r : List Int} (hl : Less n l) (hr : Less n r) (h1 : (plc x).toNat + 1 < l.length) (h2 : (plc x).toNat + 1 < r.length) : 0 ≤ wtT M m x l r ∧ wtT M m x l r ≤ m := by
  unfold wtT
  split
  · obtain ⟨a, ha, ea⟩ := hl _ (show (plc x).toNat < l.length by omega)
    obtain ⟨b, hb, eb⟩ := hl _ h1
    rw [ea, eb]
    have := ((hM.2 a ha).2 b hb).1
    simp only [Int.toNat_natCast]
    omega
  · obtain ⟨a, ha, ea⟩ := hr _ (show (plc x).toNat < r.length by omega)
    obtain ⟨b, hb, eb⟩ := hr _ h2
    rw [ea, eb]
    have := ((hM.2 a ha).2 b hb).1
    simp only [Int.toNat_natCast]
    omega
def wtF (n : Nat) (f g M : List (List Int)) (m : Int) (xs l : List Int) : Int := wtS n f g M m xs l % m
def wtBad (n : Nat) (f g M : List (List Int)) (m : Int) (l : List Int) : Bool := !decide (wtF n f g M m [1, 2, 1] l = wtF n f g M m [2, 1, 2] l)
def wtFlt (n : Nat) (f g M : List (List Int)) (m : Int) : List Int := fltL n (wtBad n f g M m)
end Go.Proofs.YtkjpkdmnjbjjaaaGreat

namespace Go.Proofs.YtkjpkdmnjbjjaaaGreat
set_option linter.unusedVariables false
set_option linter.unusedSimpArgs false
section
variable {f : Nat → Nat} {K x y : Nat}
/-! ### the period -/
/-! ### what is met -/
end
end Go.Proofs.YtkjpkdmnjbjjaaaGreat

namespace Go.Proofs.YtkjpkdmnjbjjaaaGreat
set_option linter.unusedVariables false
set_option linter.unusedSimpArgs false
def numL (n : Nat) (l : List Int) : Nat := l.foldl (fun a x => a * n + x.toNat) 0
def LessM (n : Nat) (l : List Int) : Prop := ∀ x ∈ l, 0 ≤ x ∧ x < n
theorem Less.mem {n : Nat} {l : List Int} (h : Less n l) : LessM n l := fun x hx => by
  obtain ⟨i, hi, rfl⟩ := List.getElem_of_mem hx
  obtain ⟨k, hk, e⟩ := h i hi
  rw [List.getD_eq_getElem?_getD, List.getElem?_eq_getElem hi] at e
  simp only [Option.getD_some] at e
  omega
theorem num_bd {n : Nat} (hn : 1 ≤ n) : ∀ (l : List Int) (a : Nat), LessM n l → l.foldl (fun a x => a * n + x.toNat) a < (a + 1) * n ^ l.length := by
  intro l
  induction l with
  | nil => intro a _; simp
  | cons x r ih =>
    intro a h
    rw [List.foldl_cons]
    have h1 := ih (a * n + x.toNat) (fun y hy => h y (List.mem_cons_of_mem _ hy))
    have hx := h x (List.mem_cons_self ..)
    refine Nat.lt_of_lt_of_le h1 ?_
    rw [List.length_cons, Nat.pow_succ, Nat.mul_comm (n ^ r.length) n, ← Nat.mul_assoc]
    refine Nat.mul_le_mul_right _ ?_
    rw [Nat.add_mul, Nat.one_mul]
    omega
theorem numL_lt {n : Nat} (hn : 1 ≤ n) {l : List Int} (h : Less n l) : numL n l < n ^ l.length := by
  have := num_bd hn l 0 h.mem
  simpa [numL] using this
theorem num_inj {n : Nat} (hn : 1 ≤ n) : ∀ (l l' : List Int) (a a' : Nat), l.length = l'.length → LessM n l → LessM n l' → l.foldl (fun a x => a * n + x.toNat) a = l'.foldl (fun a x => a * n + x.toNat) a' → a = a' ∧ l = l' := by
  intro l
  induction l with
  | nil =>
    intro l' a a' hl _ _ e
    have : l' = [] := List.eq_nil_of_length_eq_zero hl.symm
    subst this
    exact ⟨by simpa using e, rfl⟩
  | cons x r ih =>
    intro l' a a' hl h h' e
    cases l' with
    | nil => simp at hl
    | cons y s =>
      rw [List.foldl_cons, List.foldl_cons] at e
      obtain ⟨e1, e2⟩ := ih s _ _ (by simpa using hl) (fun z hz => h z (List.mem_cons_of_mem _ hz)) (fun z hz => h' z (List.mem_cons_of_mem _ hz)) e
      have hx := h x (List.mem_cons_self ..)
      have hy := h' y (List.mem_cons_self ..)
      have d1 := congrArg (· / n) e1
      have d2 := congrArg (· % n) e1
      simp only [pair_div hn (show x.toNat < n by omega), pair_div hn (show y.toNat < n by omega), pair_mod (show x.toNat < n by omega), pair_mod (show y.toNat < n by omega)] at d1 d2
      exact ⟨d1, by rw [e2, show x = y by omega]⟩
theorem digL_succ (n s N : Nat) : digL n (s + 1) N = digL n s (N / n) ++ [((N % n : Nat) : Int)] := by
  unfold digL
  rw [List.range_succ, List.map_append]
  congr 1
  · apply List.map_congr_left
    intro i hi
    have hi := List.mem_range.1 hi
    have : s + 1 - 1 - i = (s - 1 - i) + 1 := by omega
    rw [this, Nat.pow_succ, Nat.mul_comm, ← Nat.div_div_eq_div_mul]
  · simp
theorem numL_dig {n : Nat} : ∀ (s N : Nat), N < n ^ s → numL n (digL n s N) = N := by
  intro s
  induction s with
  | zero => intro N h; simp [digL, numL] at *; omega
  | succ s ih =>
    intro N h
    rw [digL_succ]
    unfold numL
    rw [List.foldl_append]
    have h1 : N / n < n ^ s := Nat.div_lt_of_lt_mul (by rw [Nat.mul_comm, ← Nat.pow_succ]; exact h)
    have := ih (N / n) h1
    unfold numL at this
    rw [this]
    simp only [List.foldl_cons, List.foldl_nil, Int.toNat_natCast]
    rw [Nat.mul_comm]
    exact Nat.div_add_mod N n
theorem list_ext0 {l l' : List Int} (hl : l.length = l'.length) (h : ∀ i, i < l.length → l.getD i 0 = l'.getD i 0) : l = l' := by
  apply List.ext_getElem hl
  intro i h1 h2
  have := h i h1
  simpa [List.getD_eq_getElem?_getD, List.getElem?_eq_getElem h1, List.getElem?_eq_getElem h2] using this
end Go.Proofs.YtkjpkdmnjbjjaaaGreat

namespace Go.Proofs.YtkjpkdmnjbjjaaaGreat
set_option linter.unusedVariables false
set_option linter.unusedSimpArgs false
theorem actL_app (n : Nat) (f g : List (List Int)) (xs ys l : List Int) : actL n f g (xs ++ ys) l = actL n f g ys (actL n f g xs l) := by unfold actL; rw [List.foldl_append]
theorem doF_get {f g : List (List Int)} {i : Nat} {l : List Int} {x y : Nat} (hx : l.getD i 0 = (x : Int)) (hy : l.getD (i + 1) 0 = (y : Int)) (k : Nat) (hk : k < l.length) : (doF f g i l).getD k 0 = if k = i + 1 then ((tv g x y : Nat) : Int) else if k = i then ((tv f x y : Nat) : Int) else l.getD k 0 := by
  unfold doF
  rw [hx, hy, Int.toNat_natCast, Int.toNat_natCast, getD_set' _ _ _ _ _ (by rw [List.length_set]; exact hk)]
  split
  · rfl
  · rw [getD_set' _ _ _ _ _ hk]
theorem doF_back {n : Nat} {f g f' g' : List (List Int)} (hb : ∀ x y, x < n → y < n → tv f' (tv f x y) (tv g x y) = x ∧ tv g' (tv f x y) (tv g x y) = y) {i : Nat} {l : List Int} (hi : i + 1 < l.length) (h : Less n l) : doF f' g' i (doF f g i l) = l := by
  obtain ⟨x, hx, ex⟩ := h i (by omega)
  obtain ⟨y, hy, ey⟩ := h (i + 1) hi
  obtain ⟨h1, h2⟩ := hb x y hx hy
  have e1 : (doF f g i l).getD i 0 = ((tv f x y : Nat) : Int) := by rw [doF_get ex ey i (by omega), if_neg (by omega), if_pos rfl]
  have e2 : (doF f g i l).getD (i + 1) 0 = ((tv g x y : Nat) : Int) := by rw [doF_get ex ey (i + 1) hi, if_pos rfl]
  refine list_ext0 (by rw [doF_len, doF_len]) fun k hk => ?_
  have hk' : k < l.length := by rw [doF_len, doF_len] at hk; exact hk
  rw [doF_get e1 e2 k (by rw [doF_len]; exact hk'), h1, h2]
  split
  · rename_i e; rw [e, ey]
  · split
    · rename_i e; rw [e, ex]
    · rw [doF_get ex ey k hk']; rename_i n1 n2; rw [if_neg n1, if_neg n2]
theorem plc_neg {x : Int} (h : x ≠ 0) : plc (-x) = plc x := by
  unfold plc
  by_cases q : x < 0
  · rw [if_pos q, if_neg (by omega)]
  · rw [if_neg q, if_pos (by omega)]; omega
theorem step_back {n : Nat} {f g : List (List Int)} (hn : 1 ≤ n) (hf : Sq n f) (hg : Sq n g) (hc : collOk n f g = true) {x : Int} {l : List Int} (hx : x ≠ 0) (hi : (plc x).toNat + 1 < l.length) (h : Less n l) : stepL n f g (-x) (stepL n f g x l) = l := by
  have h1 : ∀ x y, x < n → y < n → tv (bfT n f g) (tv f x y) (tv g x y) = x ∧ tv (bgT n f g) (tv f x y) (tv g x y) = y := fun x y hx hy =>
    ⟨bf_tv hn hc hx hy (hf.lt hx hy) (hg.lt hx hy) rfl rfl, bg_tv hn hc hx hy (hf.lt hx hy) (hg.lt hx hy) rfl rfl⟩
  have h2 : ∀ u v, u < n → v < n → tv f (tv (bfT n f g) u v) (tv (bgT n f g) u v) = u ∧ tv g (tv (bfT n f g) u v) (tv (bgT n f g) u v) = v := fun u v hu hv => by
    obtain ⟨x, y, hx, hy, e1, e2⟩ := pr_ex hn hf hg hc hu hv
    rw [bf_tv hn hc hx hy hu hv e1 e2, bg_tv hn hc hx hy hu hv e1 e2]
    exact ⟨e1, e2⟩
  unfold stepL
  rw [plc_neg hx]
  by_cases q : 0 < x
  · rw [if_pos q, if_neg (by omega)]
    exact doF_back h1 hi h
  · rw [if_neg q, if_pos (by omega)]
    exact doF_back h2 hi h
def ivL (xs : List Int) : List Int := (xs.map fun x => -x).reverse
theorem ivL_cons (x : Int) (xs : List Int) : ivL (x :: xs) = ivL xs ++ [-x] := by simp [ivL]
theorem ivL_len (xs : List Int) : (ivL xs).length = xs.length := by simp [ivL]
theorem act_back {n : Nat} {f g : List (List Int)} (hn : 1 ≤ n) (hf : Sq n f) (hg : Sq n g) (hc : collOk n f g = true) : ∀ (xs l : List Int), (∀ x ∈ xs, x ≠ 0 ∧ (plc x).toNat + 1 < l.length) → Less n l → actL n f g (ivL xs) (actL n f g xs l) = l := by
  intro xs
  induction xs with
  | nil => intro l _ _; rfl
  | cons x xs ih =>
    intro l hx h
    have h0 := hx x (by simp)
    have hs := h.step hn hf hg hc x h0.2
    have e : actL n f g (x :: xs) l = actL n f g xs (stepL n f g x l) := rfl
    rw [ivL_cons, actL_app, e, ih _ (fun y hy => by rw [stepL_len]; exact hx y (by simp [hy])) hs]
    exact step_back hn hf hg hc h0.1 h0.2 h
theorem digL_num {n s : Nat} (hn : 1 ≤ n) {l : List Int} (hl : l.length = s) (h : Less n l) : digL n s (numL n l) = l := by
  have h1 := numL_lt hn h
  rw [hl] at h1
  exact (num_inj hn (digL n s (numL n l)) l 0 0 (by rw [digL_len, hl]) (digL_less n s _ hn).mem h.mem (numL_dig s _ h1)).2
end Go.Proofs.YtkjpkdmnjbjjaaaGreat
