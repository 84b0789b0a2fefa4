/-
  Walks and plain laws of this seat, some texts in one.
  No condition but bounds on lengths.
-/
import Derived.Test.YtpdgpgbgakinlaaGreatPb2
import Derived.Test.YtpdgpgbgakinlaaGreatPb3
namespace Go.Proofs.YtpdgpgbgakinlaaGreat
set_option maxRecDepth 100000
set_option linter.unusedVariables false
set_option linter.unusedSimpArgs false
open Go.RowKit
def isMx (n m : Int) (f : List (List Int)) : Bool := rngB 1 12 m && (decide ((f.length : Int) = n) && f.all (rowOk n m))
set_option maxHeartbeats 400000 in
theorem isShift_any (N m : Int) (a : Option Addr) (n c : Nat) (xs : List Int) (w : World) (h1 : Row w a n xs) (hm : n ≤ 9223372036854775807) :
    Calls Tryz.prog 68 #[.int .i64 N, .int .i64 m, .slice a n c] w fun e w' => e = .returned (.bool (rngB 1 12 m && rowOk N m xs)) ∧ w = w' := by
  have hl := h1.len
  cases hp : rngB 1 12 m with
  | false =>
    have HC := Lib.hid (fun w => within_b m 1 12 false hp w); clear hp hl
    go_enter Tryz.func68, Tryz.ntmps68
    go_wp2_with fail
    refine (HC.out _).mono ?_
    rintro e w' ⟨rfl, rfl⟩
    go_wp2
    go_ret
    exact ⟨ret_bool (by simp), rfl⟩
  | true =>
    have HC := Lib.hid (fun w => within_b m 1 12 true hp w)
    have hmm : 1 ≤ m ∧ m ≤ 12 := by simpa [rngB] using hp
    clear hp
    by_cases hn : (n : Int) = N
    · have b1 : ((n : Int) == N) = true := by simpa using hn
      have hq : rowOk N m xs = xs.all (rngB 0 (m - 1)) := by simp [rowOk, ← hl, hn]
      have HQ := Lib.hid hq; have HA := Lib.hid (fun w hr => allWithin_any a n c xs 0 (m - 1) w hr hm); clear hq hl hn
      go_enter Tryz.func68, Tryz.ntmps68
      go_wp2_with fail
      refine (HC.out _).mono ?_
      rintro e w' ⟨rfl, rfl⟩
      go_wp2_with fail
      refine (HA.out _ h1).mono ?_
      rintro e w' ⟨rfl, rfl⟩
      go_wp2
      go_ret
      exact ⟨ret_bool (by rw [HQ.out]; simp), rfl⟩
    · have b1 : ((n : Int) == N) = false := by simpa using hn
      have hq : rowOk N m xs = false := by simp [rowOk, ← hl, hn]
      have HQ := Lib.hid hq; clear hq hl hn
      go_enter Tryz.func68, Tryz.ntmps68
      go_wp2_with fail
      refine (HC.out _).mono ?_
      rintro e w' ⟨rfl, rfl⟩
      go_wp2
      go_ret
      exact ⟨ret_bool (by rw [HQ.out]; simp), rfl⟩
set_option maxHeartbeats 400000 in
theorem isMatrix1_any (N m : Int) (b1 b2 : Nat) (t1 t2 : TypeId) (a : Option Addr) (n c : Nat) (xs : List Int) (w : World) (hL1 : Loc w b1 #[.int .i64 N] t1) (hL2 : Loc w b2 #[.int .i64 m] t2) (h1 : Row w a n xs) (hm : n ≤ 9223372036854775807) (hmm : rngB 1 12 m = true) :
    Calls Tryz.prog 88 #[.slice a n c, .pointer (some ⟨b1, 0, none⟩), .pointer (some ⟨b2, 0, none⟩)] w fun e w' => e = .returned (.bool (!rowOk N m xs)) ∧ w = w' := by
  have l1 := hL1.one
  have l2 := hL2.one
  have hc := isShift_any N m a n c xs w h1 hm
  rw [hmm, Bool.true_and] at hc
  have HC := Lib.hid hc; clear hc hmm
  go_enter Tryz.func88, Tryz.ntmps88
  go_wp2_with fail
  refine HC.out.mono ?_
  rintro e w' ⟨rfl, rfl⟩
  go_wp2
  go_ret
  exact ⟨rfl, rfl⟩
theorem ent_isMatrix1 : Ent 88 := fun _ _ => rfl
set_option maxHeartbeats 1000000 in
theorem isMatrix_any (N m : Int) (a : Option Addr) (n c : Nat) (xs : List (List Int)) (w : World) (h1 : Tbl w a n xs) (hm : n ≤ 9223372036854775807) :
    Calls Tryz.prog 42 #[.int .i64 N, .int .i64 m, .slice a n c] w fun e w' => e = .returned (.bool (isMx N m xs)) ∧ Below w.heap.size w w' := by
  have hl := h1.len
  have hB := below_al (below_al (Below.refl w.heap.size w) (.cells #[.int .i64 N] 3)) (.cells #[.int .i64 m] 2)
  cases hp : rngB 1 12 m with
  | false =>
    have hq : isMx N m xs = false := by simp [isMx, hp]
    have HQ := Lib.hid hq
    have HC := Lib.hid (fun w => within_b m 1 12 false hp w); clear hp hl hq
    go_enter Tryz.func42, Tryz.ntmps42
    go_wp2_with fail
    refine (HC.out _).mono ?_
    rintro e w' ⟨rfl, rfl⟩
    go_wp2
    go_ret
    exact ⟨ret_bool HQ.out.symm, hB⟩
  | true =>
    have HC := Lib.hid (fun w => within_b m 1 12 true hp w)
    have HP := Lib.hid hp
    by_cases hn : (n : Int) = N
    · have b1 : ((n : Int) == N) = true := by simpa using hn
      have hq : isMx N m xs = xs.all (rowOk N m) := by simp [isMx, hp, ← hl, hn]
      have HQ := Lib.hid hq; clear hq hl hn hp
      have hcl : ∀ x ∈ xs, ∀ w1, ((w.alloc (.cells #[.int .i64 N] 3)).alloc (.cells #[.int .i64 m] 2)) = w1 → ∀ a' n' c', Row w1 a' n' x → n' ≤ 9223372036854775807 → Calls Tryz.prog 88 (#[.slice a' n' c'] ++ #[.pointer (some ⟨w.heap.size, 0, none⟩), .pointer (some ⟨w.heap.size + 1, 0, none⟩)]) w1 fun e w' => e = .returned (.bool (!rowOk N m x)) ∧ ((w.alloc (.cells #[.int .i64 N] 3)).alloc (.cells #[.int .i64 m] 2)) = w' := fun x hx w1 hw1 a' n' c' hr hn' => by
        subst hw1
        exact isMatrix1_any N m _ _ _ _ a' n' c' x _ ((Loc.new _ rfl _ _).alloc _) (Loc.new _ (by simp) _ _) hr hn' HP.out
      have HCL := Lib.hid hcl; clear hcl
      go_enter Tryz.func42, Tryz.ntmps42
      go_wp2_with fail
      refine (HC.out _).mono ?_
      rintro e w' ⟨rfl, rfl⟩
      go_wp2_with fail
      refine (containsFunc_rows (fun w1 => ((w.alloc (.cells #[.int .i64 N] 3)).alloc (.cells #[.int .i64 m] 2)) = w1) 88 _ (fun x => !rowOk N m x) _ _ _ xs _ rfl (fun w1 h => h ▸ (h1.alloc _).alloc _) hm ent_isMatrix1 HCL.out).mono ?_
      rintro e w' ⟨rfl, rfl⟩
      go_wp2
      go_ret
      refine ⟨ret_bool ?_, hB⟩
      rw [HQ.out]
      simp [List.any_eq_not_all_not]
    · have b1 : ((n : Int) == N) = false := by simpa using hn
      have hq : isMx N m xs = false := by simp [isMx, ← hl, hn]
      have HQ := Lib.hid hq; clear hq hl hn hp
      go_enter Tryz.func42, Tryz.ntmps42
      go_wp2_with fail
      refine (HC.out _).mono ?_
      rintro e w' ⟨rfl, rfl⟩
      go_wp2
      go_ret
      exact ⟨ret_bool HQ.out.symm, hB⟩
end Go.Proofs.YtpdgpgbgakinlaaGreat

namespace Go.Proofs.YtpdgpgbgakinlaaGreat
set_option linter.unusedVariables false
set_option linter.unusedSimpArgs false
def SqM (n m : Nat) (t : List (List Int)) : Prop := t.length = n ∧ ∀ x, x < n → (t.getD x []).length = n ∧ ∀ y, y < n → tv t x y < m ∧ (t.getD x []).getD y 0 = ((tv t x y : Nat) : Int)
theorem isMx_sq {n : Nat} {m : Int} {t : List (List Int)} (h : isMx n m t = true) : (1 ≤ m ∧ m ≤ 12) ∧ SqM n m.toNat t := by
  unfold isMx at h
  rw [Bool.and_eq_true, Bool.and_eq_true] at h
  obtain ⟨h1, h2, h3⟩ := h
  have hm : 1 ≤ m ∧ m ≤ 12 := by unfold rngB at h1; simpa using h1
  have hl : t.length = n := by have := of_decide_eq_true h2; omega
  refine ⟨hm, hl, fun x hx => ?_⟩
  have hxl : x < t.length := by omega
  have hr := List.all_eq_true.1 h3 t[x] (List.getElem_mem hxl)
  have e : t.getD x [] = t[x] := by simp [List.getD_eq_getElem?_getD, List.getElem?_eq_getElem hxl]
  obtain ⟨h4, h5⟩ := rowOk_get hr
  rw [e]
  refine ⟨by omega, fun y hy => ?_⟩
  have := h5 y (by omega)
  unfold tv
  rw [e]
  omega
def wtT (M : List (List Int)) (m : Int) (x : Int) (l r : List Int) : Int :=
  if 0 < x then ((tv M (l.getD (plc x).toNat 0).toNat (l.getD ((plc x).toNat + 1) 0).toNat : Nat) : Int)
  else m - ((tv M (r.getD (plc x).toNat 0).toNat (r.getD ((plc x).toNat + 1) 0).toNat : Nat) : Int)
def wtS (n : Nat) (f g M : List (List Int)) (m : Int) : List Int → List Int → Int
  | [], _ => 0
  | x :: xs, l => wtT M m x l (stepL n f g x l) + wtS n f g M m xs (stepL n f g x l)
theorem wtS_append (n : Nat) (f g M : List (List Int)) (m : Int) (xs ys l : List Int) : wtS n f g M m (xs ++ ys) l = wtS n f g M m xs l + wtS n f g M m ys (actL n f g xs l) := by
  induction xs generalizing l with
  | nil => simp [wtS, actL]
  | cons x r ih =>
    simp only [List.cons_append, wtS]
    rw [ih]
    show _ = _ + wtS n f g M m ys (actL n f g r (stepL n f g x l))
    omega
theorem wtS_take (n : Nat) (f g M : List (List Int)) (m : Int) (xs l : List Int) (k : Nat) (h : k < xs.length) :
    wtS n f g M m (xs.take (k + 1)) l = wtS n f g M m (xs.take k) l + wtT M m xs[k] (actL n f g (xs.take k) l) (actL n f g (xs.take (k + 1)) l) := by
  rw [actL_take n f g xs l k h, List.take_succ_eq_append_getElem h, wtS_append]
  simp [wtS]
theorem wtT_bd {n : Nat} {M : List (List Int)} {m : Int} (hM : SqM n m.toNat M) (hm : 1 ≤ m ∧ m ≤ 12) {x : Int} {l r : List Int} (hl : Less n l) (hr : Less n r) (h1 : (plc x).toNat + 1 < l.length) (h2 : (plc x).toNat + 1 < r.length) : 0 ≤ wtT M m x l r ∧ wtT M m x l r ≤ m := by
  unfold wtT
  split
  · obtain ⟨a, ha, ea⟩ := hl _ (show (plc x).toNat < l.length by omega)
    obtain ⟨b, hb, eb⟩ := hl _ h1
    rw [ea, eb]
    have := ((hM.2 a ha).2 b hb).1
    simp only [Int.toNat_natCast]
    omega
  · obtain ⟨a, ha, ea⟩ := hr _ (show (plc x).toNat < r.length by omega)
    obtain ⟨b, hb, eb⟩ := hr _ h2
    rw [ea, eb]
    have := ((hM.2 a ha).2 b hb).1
    simp only [Int.toNat_natCast]
    omega
def wtF (n : Nat) (f g M : List (List Int)) (m : Int) (xs l : List Int) : Int := wtS n f g M m xs l % m
def wtBad (n : Nat) (f g M : List (List Int)) (m : Int) (l : List Int) : Bool := !decide (wtF n f g M m [1, 2, 1] l = wtF n f g M m [2, 1, 2] l)
def wtFlt (n : Nat) (f g M : List (List Int)) (m : Int) : List Int := fltL n (wtBad n f g M m)
end Go.Proofs.YtpdgpgbgakinlaaGreat

namespace Go.Proofs.YtpdgpgbgakinlaaGreat
set_option linter.unusedVariables false
set_option linter.unusedSimpArgs false
section
variable {f : Nat → Nat} {K x y : Nat}
/-! ### the period -/
/-! ### what is met -/
end
end Go.Proofs.YtpdgpgbgakinlaaGreat

namespace Go.Proofs.YtpdgpgbgakinlaaGreat
set_option linter.unusedVariables false
set_option linter.unusedSimpArgs false
def numL (n : Nat) (l : List Int) : Nat := l.foldl (fun a x => a * n + x.toNat) 0
def LessM (n : Nat) (l : List Int) : Prop := ∀ x ∈ l, 0 ≤ x ∧ x < n
theorem Less.mem {n : Nat} {l : List Int} (h : Less n l) : LessM n l := fun x hx => by
  obtain ⟨i, hi, rfl⟩ := List.getElem_of_mem hx
  obtain ⟨k, hk, e⟩ := h i hi
  rw [List.getD_eq_getElem?_getD, List.getElem?_eq_getElem hi] at e
  simp only [Option.getD_some] at e
  omega
theorem num_bd {n : Nat} (hn : 1 ≤ n) : ∀ (l : List Int) (a : Nat), LessM n l → l.foldl (fun a x => a * n + x.toNat) a < (a + 1) * n ^ l.length := by
  intro l
  induction l with
  | nil => intro a _; simp
  | cons x r ih =>
    intro a h
    rw [List.foldl_cons]
    have h1 := ih (a * n + x.toNat) (fun y hy => h y (List.mem_cons_of_mem _ hy))
    have hx := h x (List.mem_cons_self ..)
    refine Nat.lt_of_lt_of_le h1 ?_
    rw [List.length_cons, Nat.pow_succ, Nat.mul_comm (n ^ r.length) n, ← Nat.mul_assoc]
    refine Nat.mul_le_mul_right _ ?_
    rw [Nat.add_mul, Nat.one_mul]
    omega
theorem numL_lt {n : Nat} (hn : 1 ≤ n) {l : List Int} (h : Less n l) : numL n l < n ^ l.length := by
  have := num_bd hn l 0 h.mem
  simpa [numL] using this
theorem num_inj {n : Nat} (hn : 1 ≤ n) : ∀ (l l' : List Int) (a a' : Nat), l.length = l'.length → LessM n l → LessM n l' → l.foldl (fun a x => a * n + x.toNat) a = l'.foldl (fun a x => a * n + x.toNat) a' → a = a' ∧ l = l' := by
  intro l
  induction l with
  | nil =>
    intro l' a a' hl _ _ e
    have : l' = [] := List.eq_nil_of_length_eq_zero hl.symm
    subst this
    exact ⟨by simpa using e, rfl⟩
  | cons x r ih =>
    intro l' a a' hl h h' e
    cases l' with
    | nil => simp at hl
    | cons y s =>
      rw [List.foldl_cons, List.foldl_cons] at e
      obtain ⟨e1, e2⟩ := ih s _ _ (by simpa using hl) (fun z hz => h z (List.mem_cons_of_mem _ hz)) (fun z hz => h' z (List.mem_cons_of_mem _ hz)) e
      have hx := h x (List.mem_cons_self ..)
      have hy := h' y (List.mem_cons_self ..)
      have d1 := congrArg (· / n) e1
      have d2 := congrArg (· % n) e1
      simp only [pair_div hn (show x.toNat < n by omega), pair_div hn (show y.toNat < n by omega), pair_mod (show x.toNat < n by omega), pair_mod (show y.toNat < n by omega)] at d1 d2
      exact ⟨d1, by rw [e2, show x = y by omega]⟩
theorem digL_succ (n s N : Nat) : digL n (s + 1) N = digL n s (N / n) ++ [((N % n : Nat) : Int)] := by
  unfold digL
  rw [List.range_succ, List.map_append]
  congr 1
  · apply List.map_congr_left
    intro i hi
    have hi := List.mem_range.1 hi
    have : s + 1 - 1 - i = (s - 1 - i) + 1 := by omega
    rw [this, Nat.pow_succ, Nat.mul_comm, ← Nat.div_div_eq_div_mul]
  · simp
theorem numL_dig {n : Nat} : ∀ (s N : Nat), N < n ^ s → numL n (digL n s N) = N := by
  intro s
  induction s with
  | zero => intro N h; simp [digL, numL] at *; omega
  | succ s ih =>
    intro N h
    rw [digL_succ]
    unfold numL
    rw [List.foldl_append]
    have h1 : N / n < n ^ s := Nat.div_lt_of_lt_mul (by rw [Nat.mul_comm, ← Nat.pow_succ]; exact h)
    have := ih (N / n) h1
    unfold numL at this
    rw [this]
    simp only [List.foldl_cons, List.foldl_nil, Int.toNat_natCast]
    rw [Nat.mul_comm]
    exact Nat.div_add_mod N n
theorem list_ext0 {l l' : List Int} (hl : l.length = l'.length) (h : ∀ i, i < l.length → l.getD i 0 = l'.getD i 0) : l = l' := by
  apply List.ext_getElem hl
  intro i h1 h2
  have := h i h1
  simpa [List.getD_eq_getElem?_getD, List.getElem?_eq_getElem h1, List.getElem?_eq_getElem h2] using this
end Go.Proofs.YtpdgpgbgakinlaaGreat

namespace Go.Proofs.YtpdgpgbgakinlaaGreat
set_option linter.unusedVariables false
set_option linter.unusedSimpArgs false
theorem actL_app (n : Nat) (f g : List (List Int)) (xs ys l : List Int) : actL n f g (xs ++ ys) l = actL n f g ys (actL n f g xs l) := by unfold actL; rw [List.foldl_append]
theorem doF_get {f g : List (List Int)} {i : Nat} {l : List Int} {x y : Nat} (hx : l.getD i 0 = (x : Int)) (hy : l.getD (i + 1) 0 = (y : Int)) (k : Nat) (hk : k < l.length) : (doF f g i l).getD k 0 = if k = i + 1 then ((tv g x y : Nat) : Int) else if k = i then ((tv f x y : Nat) : Int) else l.getD k 0 := by
  unfold doF
  rw [hx, hy, Int.toNat_natCast, Int.toNat_natCast, getD_set' _ _ _ _ _ (by rw [List.length_set]; exact hk)]
  split
  · rfl
  · rw [getD_set' _ _ _ _ _ hk]
theorem doF_back {n : Nat} {f g f' g' : List (List Int)} (hb : ∀ x y, x < n → y < n → tv f' (tv f x y) (tv g x y) = x ∧ tv g' (tv f x y) (tv g x y) = y) {i : Nat} {l : List Int} (hi : i + 1 < l.length) (h : Less n l) : doF f' g' i (doF f g i l) = l := by
  obtain ⟨x, hx, ex⟩ := h i (by omega)
  obtain ⟨y, hy, ey⟩ := h (i + 1) hi
  obtain ⟨h1, h2⟩ := hb x y hx hy
  have e1 : (doF f g i l).getD i 0 = ((tv f x y : Nat) : Int) := by rw [doF_get ex ey i (by omega), if_neg (by omega), if_pos rfl]
  have e2 : (doF f g i l).getD (i + 1) 0 = ((tv g x y : Nat) : Int) := by rw [doF_get ex ey (i + 1) hi, if_pos rfl]
  refine list_ext0 (by rw [doF_len, doF_len]) fun k hk => ?_
  have hk' : k < l.length := by rw [doF_len, doF_len] at hk; exact hk
  rw [doF_get e1 e2 k (by rw [doF_len]; exact hk'), h1, h2]
  split
  · rename_i e; rw [e, ey]
  · split
    · rename_i e; rw [e, ex]
    · rw [doF_get ex ey k hk']; rename_i n1 n2; rw [if_neg n1, if_neg n2]
theorem plc_neg {x : Int} (h : x ≠ 0) : plc (-x) = plc x := by
  unfold plc
  by_cases q : x < 0
  · rw [if_pos q, if_neg (by omega)]
  · rw [if_neg q, if_pos (by omega)]; omega
theorem step_back {n : Nat} {f g : List (List Int)} (hn : 1 ≤ n) (hf : Sq n f) (hg : Sq n g) (hc : collOk n f g = true) {x : Int} {l : List Int} (hx : x ≠ 0) (hi : (plc x).toNat + 1 < l.length) (h : Less n l) : stepL n f g (-x) (stepL n f g x l) = l := by
  have h1 : ∀ x y, x < n → y < n → tv (bfT n f g) (tv f x y) (tv g x y) = x ∧ tv (bgT n f g) (tv f x y) (tv g x y) = y := fun x y hx hy =>
    ⟨bf_tv hn hc hx hy (hf.lt hx hy) (hg.lt hx hy) rfl rfl, bg_tv hn hc hx hy (hf.lt hx hy) (hg.lt hx hy) rfl rfl⟩
  have h2 : ∀ u v, u < n → v < n → tv f (tv (bfT n f g) u v) (tv (bgT n f g) u v) = u ∧ tv g (tv (bfT n f g) u v) (tv (bgT n f g) u v) = v := fun u v hu hv => by
    obtain ⟨x, y, hx, hy, e1, e2⟩ := pr_ex hn hf hg hc hu hv
    rw [bf_tv hn hc hx hy hu hv e1 e2, bg_tv hn hc hx hy hu hv e1 e2]
    exact ⟨e1, e2⟩
  unfold stepL
  rw [plc_neg hx]
  by_cases q : 0 < x
  · rw [if_pos q, if_neg (by omega)]
    exact doF_back h1 hi h
  · rw [if_neg q, if_pos (by omega)]
    exact doF_back h2 hi h
def ivL (xs : List Int) : List Int := (xs.map fun x => -x).reverse
theorem ivL_cons (x : Int) (xs : List Int) : ivL (x :: xs) = ivL xs ++ [-x] := by simp [ivL]
theorem ivL_len (xs : List Int) : (ivL xs).length = xs.length := by simp [ivL]
theorem act_back {n : Nat} {f g : List (List Int)} (hn : 1 ≤ n) (hf : Sq n f) (hg : Sq n g) (hc : collOk n f g = true) : ∀ (xs l : List Int), (∀ x ∈ xs, x ≠ 0 ∧ (plc x).toNat + 1 < l.length) → Less n l → actL n f g (ivL xs) (actL n f g xs l) = l := by
  intro xs
  induction xs with
  | nil => intro l _ _; rfl
  | cons x xs ih =>
    intro l hx h
    have h0 := hx x (by simp)
    have hs := h.step hn hf hg hc x h0.2
    have e : actL n f g (x :: xs) l = actL n f g xs (stepL n f g x l) := rfl
    rw [ivL_cons, actL_app, e, ih _ (fun y hy => by rw [stepL_len]; exact hx y (by simp [hy])) hs]
    exact step_back hn hf hg hc h0.1 h0.2 h
theorem digL_num {n s : Nat} (hn : 1 ≤ n) {l : List Int} (hl : l.length = s) (h : Less n l) : digL n s (numL n l) = l := by
  have h1 := numL_lt hn h
  rw [hl] at h1
  exact (num_inj hn (digL n s (numL n l)) l 0 0 (by rw [digL_len, hl]) (digL_less n s _ hn).mem h.mem (numL_dig s _ h1)).2
end Go.Proofs.YtpdgpgbgakinlaaGreat
