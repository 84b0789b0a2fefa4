/-
  Walks and plain laws of this seat, some texts in one.
  No condition but bounds on lengths.
-/
import Derived.Test.YtaddclaadbjnlaaGreatPs3
import Derived.Test.YtaddclaadbjnlaaGreatPs1
import Derived.Test.YtaddclaadbjnlaaGreatPs2
namespace Go.Proofs.YtaddclaadbjnlaaGreat
set_option maxRecDepth 100000
set_option linter.unusedVariables false
set_option linter.unusedSimpArgs false
open Go.RowKit
def rngB (lo hi x : Int) : Bool := decide (lo ≤ x) && decide (x ≤ hi)
def rowOk (n m : Int) (xs : List Int) : Bool := decide ((xs.length : Int) = n) && xs.all (rngB 0 (m - 1))
theorem all_get_succ {α : Type} {f : α → Bool} {xs : List α} {k : Nat} (hx : k < xs.length) (h1 : (xs.take k).all f = true) (h2 : f xs[k] = true) : (xs.take (k + 1)).all f = true := by
  rw [List.take_succ_eq_append_getElem hx, List.all_append, h1]; simp [h2]
theorem all_no {α : Type} {f : α → Bool} {xs : List α} {k : Nat} (hx : k < xs.length) (h : f xs[k] = false) : xs.all f = false := by
  rw [List.all_eq_false]; exact ⟨xs[k], List.getElem_mem hx, by simp [h]⟩
theorem within_b (v lo hi : Int) (b : Bool) (h : rngB lo hi v = b) (w : World) :
    Calls Tryz.prog 37 #[.int .i64 v, .int .i64 lo, .int .i64 hi] w fun e w' => e = .returned (.bool b) ∧ w = w' :=
  (within_any v lo hi w).mono fun e w' ⟨he, hw⟩ => ⟨he.trans (ret_bool h), hw⟩
theorem l01In_b (v lo hi : Int) (b : Bool) (h : rngB lo hi v = b) (w : World) :
    Calls Tryz.prog 39 #[.int .i64 v, .int .i64 lo, .int .i64 hi] w fun e w' => e = .returned (.bool b) ∧ w = w' :=
  (l01In_any v lo hi w).mono fun e w' ⟨he, hw⟩ => ⟨he.trans (ret_bool h), hw⟩
set_option maxHeartbeats 400000 in
theorem allWithin_any (a : Option Addr) (n c : Nat) (xs : List Int) (lo hi : Int) (w : World) (h1 : Row w a n xs) (hm : n ≤ 9223372036854775807) :
    Calls Tryz.prog 100 #[.slice a n c, .int .i64 lo, .int .i64 hi] w fun e w' => e = .returned (.bool (xs.all (rngB lo hi))) ∧ w = w' := by
  have hl := h1.len
  have HL := Lib.hid hl; clear hl
  go_enter Tryz.func100, Tryz.ntmps100
  go_wp2
  go_loop [11] (fun i => ∃ k : Nat, k ≤ n ∧ i = .int .i64 k ∧ Hid ((xs.take k).all (rngB lo hi) = true)) (fun i => n - (intOf i).toNat)
  case atStart => exact ⟨0, Nat.zero_le _, rfl, by simp [Hid]⟩
  case round =>
    obtain ⟨k, hk, rfl, hall⟩ := hrel
    by_cases hlt : k < n
    · obtain ⟨b, off, rfl, g1⟩ := h1.at k hlt
      have hx : k < xs.length := by have := HL.out; omega
      clear h1
      cases hp : rngB lo hi xs[k] with
      | true =>
        have HC := Lib.hid (fun w => within_b xs[k] lo hi true hp w)
        have HP := Lib.hid hp; clear hp
        go_wp2_with fail
        refine (HC.out _).mono ?_
        rintro e w' ⟨rfl, rfl⟩
        go_wp2
        go_round
        case rel => exact ⟨k + 1, by omega, by go_num, all_get_succ hx hall HP.out⟩
        case measure => simp [intOf]; omega
      | false =>
        have HC := Lib.hid (fun w => within_b xs[k] lo hi false hp w)
        have HP := Lib.hid hp; clear hp
        go_wp2_with fail
        refine (HC.out _).mono ?_
        rintro e w' ⟨rfl, rfl⟩
        go_wp2
        go_ret
        exact ⟨ret_bool (all_no hx HP.out).symm, rfl⟩
    · obtain rfl : k = n := by omega
      go_wp2
      go_ret
      have ha : (xs.take k).all (rngB lo hi) = true := hall
      rw [List.take_of_length_le (by have := HL.out; omega)] at ha
      exact ⟨ret_bool ha.symm, rfl⟩
/-! ### questions of rows at a function value that only reads -/
def idxT (p : List Int → Bool) (xs : List (List Int)) : Int := match xs.findIdx? p with | some i => (i : Int) | none => -1
theorem idxT_hit {p : List Int → Bool} {xs : List (List Int)} {k : Nat} (hk : k < xs.length) (h1 : (xs.take k).all (fun x => !p x) = true) (h2 : p xs[k] = true) : idxT p xs = k := by
  have : xs.findIdx? p = some k := by
    rw [List.findIdx?_eq_some_iff_getElem]
    refine ⟨hk, h2, fun j hj => ?_⟩
    have hj' : j < xs.length := by omega
    rw [List.all_eq_true] at h1
    have := h1 xs[j] (by rw [List.mem_take_iff_getElem]; exact ⟨j, by omega, rfl⟩)
    simpa using this
  simp [idxT, this]
theorem idxT_miss {p : List Int → Bool} {xs : List (List Int)} (h1 : xs.all (fun x => !p x) = true) : idxT p xs = -1 := by
  have : xs.findIdx? p = none := by
    rw [List.findIdx?_eq_none_iff]
    intro x hx
    rw [List.all_eq_true] at h1
    simpa using h1 x hx
  simp [idxT, this]
theorem idxT_any (p : List Int → Bool) (xs : List (List Int)) : decide (0 ≤ idxT p xs) = xs.any p := by
  unfold idxT
  cases h : xs.findIdx? p with
  | none => rw [List.findIdx?_eq_none_iff] at h; simp; intro x hx; simpa using h x hx
  | some i =>
    rw [List.findIdx?_eq_some_iff_getElem] at h
    obtain ⟨hi, hp, _⟩ := h
    have : xs.any p = true := List.any_eq_true.2 ⟨xs[i], List.getElem_mem hi, hp⟩
    simp [this]
set_option maxHeartbeats 1000000 in
theorem idxFunc_rows (Inv : World → Prop) (f : FuncId) (caps : Array Value) (p : List Int → Bool) (a : Option Addr) (n c : Nat) (xs : List (List Int)) (w : World) (hI : Inv w) (h1 : ∀ w1, Inv w1 → Tbl w1 a n xs) (hm : n ≤ 9223372036854775807)
    (hcf : Ent f) (hf : ∀ x ∈ xs, ∀ w1, Inv w1 → ∀ a' n' c', Row w1 a' n' x → n' ≤ 9223372036854775807 → Calls Tryz.prog f (#[.slice a' n' c'] ++ caps) w1 fun e w' => e = .returned (.bool (p x)) ∧ Inv w') :
    Calls Tryz.prog 138 #[.slice a n c, .func (.func f) #[] caps] w fun e w' => e = .returned (.int .i64 (idxT p xs)) ∧ Inv w' := by
  have hcf' : ∀ (args : Array Value) (w : World), (callFunc f args).run Tryz.prog w = .ok (.enter f args) w := hcf
  have HF := Lib.hid hf; clear hf
  have hl := (h1 w hI).len
  have HL := Lib.hid hl; clear hl
  have H1 := Lib.hid h1; clear h1
  have HI := Lib.hid hI; clear hI
  go_enter Tryz.func138, Tryz.ntmps138
  go_wp2
  go_loopw [8] (fun i wr => ∃ k : Nat, k ≤ n ∧ i = .int .i64 k ∧ Hid ((xs.take k).all (fun x => !p x) = true) ∧ Hid (Inv wr)) (fun i _ => n - (intOf i).toNat)
  case atStart => exact ⟨0, Nat.zero_le _, rfl, by simp [Hid], HI⟩
  case round =>
    obtain ⟨k, hk, rfl, hall, hi⟩ := hrel
    by_cases hlt : k < n
    · obtain ⟨b, off, ai, ni, ci, rfl, g1, hri, hni⟩ := (H1.out wr hi.out).at k hlt
      have hx : k < xs.length := by have := HL.out; omega
      rw [Tbl.getD hx] at hri
      have hc := HF.out xs[k] (List.getElem_mem hx) wr hi.out ai ni ci hri hni
      by_cases hp : p xs[k] = true
      · rw [hp] at hc
        have HC := Lib.hid hc; clear hc
        have HP := Lib.hid hp; clear hp
        go_wp2_with fail
        refine HC.out.mono ?_
        rintro e w' ⟨rfl, hi'⟩
        have HI' := Lib.hid hi'; clear hi'
        go_wp2
        go_ret
        exact ⟨ret_int (idxT_hit hx hall HP.out).symm, HI'.out⟩
      · have hp : p xs[k] = false := by simpa using hp
        rw [hp] at hc
        have HC := Lib.hid hc; clear hc
        have HP := Lib.hid hp; clear hp
        go_wp2_with fail
        refine HC.out.mono ?_
        rintro e w' ⟨rfl, hi'⟩
        have HI' := Lib.hid hi'; clear hi'
        go_wp2
        go_roundw
        case rel =>
          refine ⟨k + 1, by omega, by go_num, ?_, HI'⟩
          show ((xs.take (k + 1)).all (fun x => !p x)) = true
          have ha : (xs.take k).all (fun x => !p x) = true := hall
          rw [List.take_succ_eq_append_getElem hx, List.all_append, ha]; simp [HP.out]
        case measure => simp [intOf]; omega
    · obtain rfl : k = n := by omega
      go_wp2
      go_ret
      have ha : (xs.take k).all (fun x => !p x) = true := hall
      rw [List.take_of_length_le (by have := HL.out; omega)] at ha
      exact ⟨ret_int (idxT_miss ha).symm, hi.out⟩
set_option maxHeartbeats 400000 in
theorem containsFunc_rows (Inv : World → Prop) (f : FuncId) (caps : Array Value) (p : List Int → Bool) (a : Option Addr) (n c : Nat) (xs : List (List Int)) (w : World) (hI : Inv w) (h1 : ∀ w1, Inv w1 → Tbl w1 a n xs) (hm : n ≤ 9223372036854775807)
    (hcf : Ent f) (hf : ∀ x ∈ xs, ∀ w1, Inv w1 → ∀ a' n' c', Row w1 a' n' x → n' ≤ 9223372036854775807 → Calls Tryz.prog f (#[.slice a' n' c'] ++ caps) w1 fun e w' => e = .returned (.bool (p x)) ∧ Inv w') :
    Calls Tryz.prog 98 #[.slice a n c, .func (.func f) #[] caps] w fun e w' => e = .returned (.bool (xs.any p)) ∧ Inv w' := by
  have HF := Lib.hid hf; clear hf
  have H1 := Lib.hid h1; clear h1
  have HI := Lib.hid hI; clear hI
  go_enter Tryz.func98, Tryz.ntmps98
  go_wp2_with fail
  refine (idxFunc_rows Inv f caps p _ _ _ xs _ HI.out H1.out hm hcf HF.out).mono ?_
  rintro e w' ⟨rfl, hi'⟩
  have HI' := Lib.hid hi'; clear hi'
  go_wp2
  go_ret
  exact ⟨ret_bool (idxT_any p xs), HI'.out⟩
end Go.Proofs.YtaddclaadbjnlaaGreat
namespace Go.Proofs.YtaddclaadbjnlaaGreat
set_option linter.unusedVariables false
set_option linter.unusedSimpArgs false
def tv (t : List (List Int)) (x y : Nat) : Nat := ((t.getD x []).getD y 0).toNat
def isTab (t : List (List Int)) : Bool := rngB 1 12 (t.length : Int) && t.all (rowOk t.length t.length)
def Sq (n : Nat) (t : List (List Int)) : Prop := t.length = n ∧ ∀ x, x < n → (t.getD x []).length = n ∧ ∀ y, y < n → tv t x y < n ∧ (t.getD x []).getD y 0 = ((tv t x y : Nat) : Int)
theorem rowOk_get {n m : Int} {xs : List Int} (h : rowOk n m xs = true) : (xs.length : Int) = n ∧ ∀ y, y < xs.length → 0 ≤ xs.getD y 0 ∧ xs.getD y 0 < m := by
  unfold rowOk at h
  rw [Bool.and_eq_true] at h
  refine ⟨by simpa using h.1, fun y hy => ?_⟩
  have := List.all_eq_true.1 h.2 xs[y] (List.getElem_mem hy)
  unfold rngB at this
  have e : xs.getD y 0 = xs[y] := by simp [List.getD_eq_getElem?_getD, List.getElem?_eq_getElem hy]
  rw [e]
  simp at this
  omega
theorem isTab_sq {t : List (List Int)} (h : isTab t = true) : 1 ≤ t.length ∧ t.length ≤ 12 ∧ Sq t.length t := by
  unfold isTab at h
  rw [Bool.and_eq_true] at h
  have h1 : 1 ≤ t.length ∧ t.length ≤ 12 := by
    have := h.1; unfold rngB at this; simp at this; omega
  refine ⟨h1.1, h1.2, rfl, fun x hx => ?_⟩
  have hr := List.all_eq_true.1 h.2 t[x] (List.getElem_mem hx)
  have e : t.getD x [] = t[x] := by simp [List.getD_eq_getElem?_getD, List.getElem?_eq_getElem hx]
  obtain ⟨h2, h3⟩ := rowOk_get hr
  rw [e]
  refine ⟨by omega, fun y hy => ?_⟩
  have := h3 y (by omega)
  unfold tv
  rw [e]
  omega
theorem Sq.len {n : Nat} {t : List (List Int)} (h : Sq n t) : t.length = n := h.1
theorem Sq.lt {n : Nat} {t : List (List Int)} (h : Sq n t) {x y : Nat} (hx : x < n) (hy : y < n) : tv t x y < n := ((h.2 x hx).2 y hy).1
theorem Sq.row {n : Nat} {t : List (List Int)} (h : Sq n t) {x : Nat} (hx : x < n) : (t.getD x []).length = n := (h.2 x hx).1
theorem Sq.val {n : Nat} {t : List (List Int)} (h : Sq n t) {x y : Nat} (hx : x < n) (hy : y < n) : (t.getD x []).getD y 0 = ((tv t x y : Nat) : Int) := ((h.2 x hx).2 y hy).2
/-! ### all of the numbers less than n -/
def allN (n : Nat) (P : Nat → Bool) : Bool := (List.range n).all P
theorem allN_succ {n : Nat} {P : Nat → Bool} (h : allN n P = true) (h' : P n = true) : allN (n + 1) P = true := by
  unfold allN at *; rw [List.range_succ, List.all_append, h]; simp [h']
theorem allN_no {n k : Nat} {P : Nat → Bool} (hk : k < n) (h : P k = false) : allN n P = false := by
  unfold allN; rw [List.all_eq_false]; exact ⟨k, List.mem_range.2 hk, by simp [h]⟩
theorem allN_get {n k : Nat} {P : Nat → Bool} (h : allN n P = true) (hk : k < n) : P k = true := List.all_eq_true.1 h k (List.mem_range.2 hk)
/-! ### the equation, and pairs that are led to one pair -/
def eqAt (f g : List (List Int)) (x y z : Nat) : Bool :=
  let a1 := tv f x y; let b1 := tv g x y; let b2 := tv f b1 z; let c2 := tv g b1 z; let a3 := tv f a1 b2; let b3 := tv g a1 b2
  let e1 := tv f y z; let f1 := tv g y z; let d2 := tv f x e1; let e2 := tv g x e1; let e3 := tv f e2 f1; let f3 := tv g e2 f1
  (decide (a3 = d2) && decide (b3 = e3)) && decide (c2 = f3)
def eqOk (n : Nat) (f g : List (List Int)) : Bool := allN n fun x => allN n fun y => allN n fun z => eqAt f g x y z
def collAt (n : Nat) (f g : List (List Int)) (p q : Nat) : Bool := (!decide (p = q)) && (decide (tv f (p / n) (p % n) = tv f (q / n) (q % n)) && decide (tv g (p / n) (p % n) = tv g (q / n) (q % n)))
def collOk (n : Nat) (f g : List (List Int)) : Bool := allN (n * n) fun p => allN (n * n) fun q => !collAt n f g p q
def isPm (f g : List (List Int)) : Bool := isTab f && (isTab g && decide (f.length = g.length))
def isSol (f g : List (List Int)) : Bool := isPm f g && (collOk f.length f g && eqOk f.length f g)
theorem isPm_sq {f g : List (List Int)} (h : isPm f g = true) : 1 ≤ f.length ∧ f.length ≤ 12 ∧ Sq f.length f ∧ Sq f.length g := by
  unfold isPm at h
  rw [Bool.and_eq_true, Bool.and_eq_true] at h
  obtain ⟨h1, h2, h3⟩ := isTab_sq h.1
  obtain ⟨_, _, h4⟩ := isTab_sq h.2.1
  have e : f.length = g.length := by simpa using h.2.2
  exact ⟨h1, h2, h3, by rw [e]; exact h4⟩
theorem isSol_pm {f g : List (List Int)} (h : isSol f g = true) : isPm f g = true := by
  unfold isSol at h; rw [Bool.and_eq_true] at h; exact h.1
theorem isSol_sq {f g : List (List Int)} (h : isSol f g = true) : 1 ≤ f.length ∧ f.length ≤ 12 ∧ Sq f.length f ∧ Sq f.length g := isPm_sq (isSol_pm h)
end Go.Proofs.YtaddclaadbjnlaaGreat
namespace Go.Proofs.YtaddclaadbjnlaaGreat
set_option linter.unusedVariables false
set_option linter.unusedSimpArgs false
open Go.RowKit
structure Grid (w : World) (b off : Nat) (A O C : Nat → Nat) (n : Nat) (t : List (List Int)) : Prop where
  lt : b < w.heap.size
  row : ∀ x, x < n → w.cell? ⟨b, off + x, none⟩ = some (.slice (some ⟨A x, O x, none⟩) n (C x))
  rlt : ∀ x, x < n → A x < w.heap.size
  cell : ∀ x y, x < n → y < n → w.cell? ⟨A x, O x + y, none⟩ = some (.int .i64 ((tv t x y : Nat) : Int))
theorem Tbl.grid {w : World} {a : Option Addr} {n : Nat} {t : List (List Int)} (h : Tbl w a n t) (hs : Sq n t) (hn : 0 < n) : ∃ b off A O C, a = some ⟨b, off, none⟩ ∧ Grid w b off A O C n t := by
  obtain ⟨b, off, ai, ni, ci, ha, hb, _⟩ := h.2 0 hn
  have H : ∀ x, ∃ q : Nat × Nat × Nat, x < n → w.cell? ⟨b, off + x, none⟩ = some (.slice (some ⟨q.1, q.2.1, none⟩) n q.2.2) ∧ q.1 < w.heap.size ∧ ∀ y, y < n → w.cell? ⟨q.1, q.2.1 + y, none⟩ = some (.int .i64 ((tv t x y : Nat) : Int)) := by
    intro x
    by_cases hx : x < n
    · obtain ⟨b', off', ax, nx, cx, e, _, hc, hr, _⟩ := h.2 x hx
      rw [ha] at e; cases e
      have hl : nx = n := by rw [hr.len, hs.row hx]
      subst hl
      obtain ⟨bx, ox, e, hbx, hcx⟩ := hr.all hn
      subst e
      exact ⟨(bx, ox, cx), fun _ => ⟨hc, hbx, fun y hy => by rw [hcx y hy, hs.val hx hy]⟩⟩
    · exact ⟨(0, 0, 0), fun h => absurd h hx⟩
  obtain ⟨Q, hQ⟩ := Classical.axiomOfChoice H
  exact ⟨b, off, fun x => (Q x).1, fun x => (Q x).2.1, fun x => (Q x).2.2, ha, hb, fun x hx => (hQ x hx).1, fun x hx => (hQ x hx).2.1, fun x y hx hy => (hQ x hx).2.2 y hy⟩
section
variable {w w' : World} {b off n : Nat} {A O C : Nat → Nat} {t : List (List Int)}
theorem Grid.below (h : Grid w b off A O C n t) (hb : Below w.heap.size w w') : Grid w' b off A O C n t :=
  ⟨Nat.lt_of_lt_of_le h.lt hb.size, fun x hx => (hb.cell (p := ⟨b, off + x, none⟩) h.lt).trans (h.row x hx), fun x hx => Nat.lt_of_lt_of_le (h.rlt x hx) hb.size,
   fun x y hx hy => (hb.cell (p := ⟨A x, O x + y, none⟩) (h.rlt x hx)).trans (h.cell x y hx hy)⟩
theorem Grid.alloc (h : Grid w b off A O C n t) (o : Obj) : Grid (w.alloc o) b off A O C n t := h.below ((Below.refl _ _).alloc (Nat.le_refl _) o)
theorem Grid.drewN (h : Grid w b off A O C n t) (k : Nat) : Grid (w.drewN k) b off A O C n t := ⟨h.lt, h.row, h.rlt, h.cell⟩
theorem Grid.look (h : Grid w b off A O C n t) {x y : Nat} (hx : x < n) (hy : y < n) : w.cell? ⟨b, off + x, none⟩ = some (.slice (some ⟨A x, O x, none⟩) n (C x)) ∧ w.cell? ⟨A x, O x + y, none⟩ = some (.int .i64 ((tv t x y : Nat) : Int)) := ⟨h.row x hx, h.cell x y hx hy⟩
end
set_option maxRecDepth 100000
abbrev sAgg (a : Option Addr) (n c : Nat) (a' : Option Addr) (n' c' : Nat) : Value := .agg #[.slice a n c, .slice a' n' c']
abbrev rAgg (a : Option Addr) (n c : Nat) : Value := .agg #[.slice a n c]
set_option maxHeartbeats 400000 in
theorem isTable1_any (N : Nat) (b1 : Nat) (t1 : TypeId) (a : Option Addr) (n c : Nat) (xs : List Int) (w : World) (hL1 : Loc w b1 #[.int .i64 N] t1) (h1 : Row w a n xs) (hm : n ≤ 9223372036854775807) (hN1 : 1 ≤ N) (hN : N ≤ 12) :
    Calls Tryz.prog 99 #[.slice a n c, .pointer (some ⟨b1, 0, none⟩)] w fun e w' => e = .returned (.bool (!rowOk N N xs)) ∧ w = w' := by
  have l1 := hL1.one
  have hl := h1.len
  by_cases hn : n = N
  · have b1 : ((n : Int) != (N : Int)) = false := by subst hn; simp
    have hq : rowOk N N xs = xs.all (rngB 0 ((N : Int) - 1)) := by simp [rowOk, ← hl, hn]
    have HQ := Lib.hid hq; have HA := Lib.hid (fun w hr => allWithin_any a n c xs 0 ((N : Int) - 1) w hr hm); clear hq hl hn
    go_enter Tryz.func99, Tryz.ntmps99
    go_wp2_with fail
    refine (HA.out _ h1).mono ?_
    rintro e w' ⟨rfl, rfl⟩
    go_wp2
    go_ret
    exact ⟨ret_bool (by rw [HQ.out]), rfl⟩
  · have b1 : ((n : Int) != (N : Int)) = true := by simp; omega
    have hq : rowOk N N xs = false := by
      unfold rowOk
      have : ((xs.length : Int) = (N : Int)) = False := by simp; omega
      simp [this]
    have HQ := Lib.hid hq; clear hq hl hn
    go_enter Tryz.func99, Tryz.ntmps99
    go_wp2
    go_ret
    exact ⟨ret_bool (by rw [HQ.out]; rfl), rfl⟩
theorem ent_isTable1 : Ent 99 := fun _ _ => rfl
set_option maxHeartbeats 1000000 in
theorem isTable_any (a : Option Addr) (n c : Nat) (t : List (List Int)) (w : World) (h1 : Tbl w a n t) (hm : n ≤ 9223372036854775807) :
    Calls Tryz.prog 53 #[.slice a n c] w fun e w' => e = .returned (.bool (isTab t)) ∧ Below w.heap.size w w' := by
  have hl := h1.len
  have hB := below_al (Below.refl w.heap.size w) (.cells #[.int .i64 n] 2)
  cases hp : rngB 1 12 n with
  | false =>
    have hq : isTab t = false := by unfold isTab; rw [← hl, hp]; rfl
    have HQ := Lib.hid hq
    have HC := Lib.hid (fun w => within_b n 1 12 false hp w); clear hp hl hq
    go_enter Tryz.func53, Tryz.ntmps53
    go_wp2_with fail
    refine (HC.out _).mono ?_
    rintro e w' ⟨rfl, rfl⟩
    go_wp2
    go_ret
    exact ⟨ret_bool HQ.out.symm, hB⟩
  | true =>
    have hn12 : 1 ≤ n ∧ n ≤ 12 := by unfold rngB at hp; simp at hp; omega
    have HC := Lib.hid (fun w => within_b n 1 12 true hp w)
    have hq : isTab t = t.all (rowOk n n) := by unfold isTab; rw [← hl, hp]; rfl
    have HQ := Lib.hid hq; clear hq hl hp
    have hcl : ∀ x ∈ t, ∀ w1, (w.alloc (.cells #[.int .i64 n] 2)) = w1 → ∀ a' n' c', Row w1 a' n' x → n' ≤ 9223372036854775807 → Calls Tryz.prog 99 (#[.slice a' n' c'] ++ #[.pointer (some ⟨w.heap.size, 0, none⟩)]) w1 fun e w' => e = .returned (.bool (!rowOk n n x)) ∧ (w.alloc (.cells #[.int .i64 n] 2)) = w' := fun x hx w1 hw1 a' n' c' hr hn' => by
      subst hw1
      exact isTable1_any n _ _ a' n' c' x _ (Loc.new _ rfl _ _) hr hn' hn12.1 hn12.2
    have HCL := Lib.hid hcl; clear hcl
    go_enter Tryz.func53, Tryz.ntmps53
    go_wp2_with fail
    refine (HC.out _).mono ?_
    rintro e w' ⟨rfl, rfl⟩
    go_wp2_with fail
    refine (containsFunc_rows (fun w1 => (w.alloc (.cells #[.int .i64 n] 2)) = w1) 99 _ (fun x => !rowOk n n x) _ _ _ t _ rfl (fun w1 h => h ▸ h1.alloc _) hm ent_isTable1 HCL.out).mono ?_
    rintro e w' ⟨rfl, rfl⟩
    go_wp2
    go_ret
    refine ⟨ret_bool ?_, hB⟩
    rw [HQ.out]
    simp [List.any_eq_not_all_not]
structure Sol (w : World) (a : Option Addr) (n : Nat) (xss : List (List Int)) (a' : Option Addr) (n' : Nat) (yss : List (List Int)) : Prop where
  f : Tbl w a n xss
  s : Tbl w a' n' yss
def SolS (a : Option Addr) (n : Nat) (vs : List SV) (a' : Option Addr) (n' : Nat) (vs' : List SV) (g : Nat) : Prop := TblS a n vs g ∨ TblS a' n' vs' g
structure OwnS (w : World) (lo : Nat) (a : Option Addr) (n c : Nat) (vs : List SV) (xss : List (List Int)) (a' : Option Addr) (n' c' : Nat) (vs' : List SV) (yss : List (List Int)) : Prop where
  f : OwnT w lo a n c vs xss
  s : OwnT w lo a' n' c' vs' yss
  ap : ∀ g, TblS a n vs g → ¬ TblS a' n' vs' g
section
variable {w w' : World} {lo : Nat} {a a' a1 a1' a2 a2' : Option Addr} {n n' c c' n1 n1' n2 n2' c1 c1' c2 c2' : Nat} {vs vs' : List SV} {xss yss : List (List Int)}
theorem Sol.below (h : Sol w a n xss a' n' yss) (hb : Below w.heap.size w w') : Sol w' a n xss a' n' yss := ⟨h.f.below hb, h.s.below hb⟩
theorem Sol.alloc (h : Sol w a n xss a' n' yss) (o : Obj) : Sol (w.alloc o) a n xss a' n' yss := ⟨h.f.alloc o, h.s.alloc o⟩
theorem Sol.drewN (h : Sol w a n xss a' n' yss) (k : Nat) : Sol (w.drewN k) a n xss a' n' yss := ⟨h.f.drewN k, h.s.drewN k⟩
theorem OwnS.sol (h : OwnS w lo a n c vs xss a' n' c' vs' yss) : Sol w a n xss a' n' yss := ⟨h.f.tbl, h.s.tbl⟩
theorem OwnS.below (h : OwnS w lo a n c vs xss a' n' c' vs' yss) (hb : Below w.heap.size w w') : OwnS w' lo a n c vs xss a' n' c' vs' yss := ⟨h.f.below hb, h.s.below hb, h.ap⟩
theorem OwnS.alloc (h : OwnS w lo a n c vs xss a' n' c' vs' yss) (o : Obj) : OwnS (w.alloc o) lo a n c vs xss a' n' c' vs' yss := ⟨h.f.alloc o, h.s.alloc o, h.ap⟩
theorem OwnS.drewN (h : OwnS w lo a n c vs xss a' n' c' vs' yss) (k : Nat) : OwnS (w.drewN k) lo a n c vs xss a' n' c' vs' yss := ⟨h.f.drewN k, h.s.drewN k, h.ap⟩
theorem OwnS.mono {lo' : Nat} (h : OwnS w lo a n c vs xss a' n' c' vs' yss) (hl : lo' ≤ lo) : OwnS w lo' a n c vs xss a' n' c' vs' yss := ⟨h.f.mono hl, h.s.mono hl, h.ap⟩
theorem OwnS.cap (h : OwnS w lo a n c vs xss a' n' c' vs' yss) : (n ≤ c ∧ c ≤ 9223372036854775807) ∧ n' ≤ c' ∧ c' ≤ 9223372036854775807 := ⟨h.f.cap, h.s.cap⟩
theorem OwnS.uLo (h : OwnS w lo a n c vs xss a' n' c' vs' yss) : ∀ g, SolS a n vs a' n' vs' g → lo ≤ g := fun g hg => hg.elim (h.f.uLo g) (h.s.uLo g)
theorem OwnS.uHi (h : OwnS w lo a n c vs xss a' n' c' vs' yss) : ∀ g, SolS a n vs a' n' vs' g → g < w.heap.size := fun g hg => hg.elim (h.f.uHi g) (h.s.uHi g)
theorem OwnS.uKeep (h : OwnS w lo a n c vs xss a' n' c' vs' yss) {S : Nat → Prop} (hm : Marked S w w') (hS : ∀ g, SolS a n vs a' n' vs' g → ¬ S g) : OwnS w' lo a n c vs xss a' n' c' vs' yss :=
  ⟨h.f.uKeep hm fun g hg => hS g (.inl hg), h.s.uKeep hm fun g hg => hS g (.inr hg), h.ap⟩
end
structure Dsk (w : World) (a : Option Addr) (n : Nat) (xss : List (List Int)) (a' : Option Addr) (n' : Nat) (yss : List (List Int)) (p : Option Addr) (m : Nat) (zss : List (List Int)) (q : Option Addr) (l : Nat) (ws : List Int) : Prop where
  s : Sol w a n xss a' n' yss
  r : Tbl w p m zss
  b : Row w q l ws
section
variable {w w' : World} {lo : Nat} {s : Int} {a a' p q a1 a1' p1 q1 a2 a2' p2 q2 : Option Addr} {n n' m l c c' d e n1 n1' m1 l1 c1 c1' d1 e1 n2 n2' m2 l2 c2 c2' d2 e2 : Nat} {xss yss zss : List (List Int)} {ws : List Int}
theorem Dsk.below (h : Dsk w a n xss a' n' yss p m zss q l ws) (hb : Below w.heap.size w w') : Dsk w' a n xss a' n' yss p m zss q l ws := ⟨h.s.below hb, h.r.below hb, h.b.below hb⟩
theorem Dsk.alloc (h : Dsk w a n xss a' n' yss p m zss q l ws) (o : Obj) : Dsk (w.alloc o) a n xss a' n' yss p m zss q l ws := ⟨h.s.alloc o, h.r.alloc o, h.b.alloc o⟩
structure OwnD (w : World) (lo : Nat) (a : Option Addr) (n c : Nat) (vs : List SV) (xss : List (List Int)) (a' : Option Addr) (n' c' : Nat) (vs' : List SV) (yss : List (List Int)) (p : Option Addr) (m d : Nat) (ps : List SV) (zss : List (List Int)) (q : Option Addr) (l e : Nat) (ws : List Int) : Prop where
  s : OwnS w lo a n c vs xss a' n' c' vs' yss
  r : OwnT w lo p m d ps zss
  b : Own w lo q l e ws
theorem OwnS.setlo {vs vs' : List SV} (h : OwnS w lo a n c vs xss a' n' c' vs' yss) {x : Addr} (hp : x.block < lo) (u : Value) : OwnS (w.setCell x u) lo a n c vs xss a' n' c' vs' yss := ⟨h.f.setlo hp u, h.s.setlo hp u, h.ap⟩
theorem OwnD.below {vs vs' ps : List SV} (h : OwnD w lo a n c vs xss a' n' c' vs' yss p m d ps zss q l e ws) (hb : Below w.heap.size w w') : OwnD w' lo a n c vs xss a' n' c' vs' yss p m d ps zss q l e ws := ⟨h.s.below hb, h.r.below hb, h.b.below hb⟩
end
def DskS (a : Option Addr) (n : Nat) (vs : List SV) (a' : Option Addr) (n' : Nat) (vs' : List SV) (p : Option Addr) (m : Nat) (ps : List SV) (q : Option Addr) (g : Nat) : Prop := SolS a n vs a' n' vs' g ∨ TblS p m ps g ∨ RowS q g
structure OwnDD (w : World) (lo : Nat) (a : Option Addr) (n c : Nat) (vs : List SV) (xss : List (List Int)) (a' : Option Addr) (n' c' : Nat) (vs' : List SV) (yss : List (List Int)) (p : Option Addr) (m d : Nat) (ps : List SV) (zss : List (List Int)) (q : Option Addr) (l e : Nat) (ws : List Int) : Prop where
  o : OwnD w lo a n c vs xss a' n' c' vs' yss p m d ps zss q l e ws
  ap1 : ∀ g, SolS a n vs a' n' vs' g → ¬ TblS p m ps g
  ap2 : ∀ g, SolS a n vs a' n' vs' g → ¬ RowS q g
  ap3 : ∀ g, TblS p m ps g → ¬ RowS q g
section
variable {w w' : World} {lo : Nat} {s : Int} {a a' p q a1 a1' p1 q1 a2 a2' p2 q2 : Option Addr} {n n' m l c c' d e n1 n1' m1 l1 c1 c1' d1 e1 n2 n2' m2 l2 c2 c2' d2 e2 : Nat} {xss yss zss : List (List Int)} {ws : List Int} {vs vs' ps : List SV}
theorem Dsk.drewN (h : Dsk w a n xss a' n' yss p m zss q l ws) (k : Nat) : Dsk (w.drewN k) a n xss a' n' yss p m zss q l ws := ⟨h.s.drewN k, h.r.drewN k, h.b.drewN k⟩
theorem OwnD.alloc (h : OwnD w lo a n c vs xss a' n' c' vs' yss p m d ps zss q l e ws) (o : Obj) : OwnD (w.alloc o) lo a n c vs xss a' n' c' vs' yss p m d ps zss q l e ws := ⟨h.s.alloc o, h.r.alloc o, h.b.alloc o⟩
theorem OwnD.drewN (h : OwnD w lo a n c vs xss a' n' c' vs' yss p m d ps zss q l e ws) (k : Nat) : OwnD (w.drewN k) lo a n c vs xss a' n' c' vs' yss p m d ps zss q l e ws := ⟨h.s.drewN k, h.r.drewN k, h.b.drewN k⟩
theorem OwnD.mono {lo' : Nat} (h : OwnD w lo a n c vs xss a' n' c' vs' yss p m d ps zss q l e ws) (hl : lo' ≤ lo) : OwnD w lo' a n c vs xss a' n' c' vs' yss p m d ps zss q l e ws := ⟨h.s.mono hl, h.r.mono hl, h.b.mono hl⟩
theorem OwnD.cap (h : OwnD w lo a n c vs xss a' n' c' vs' yss p m d ps zss q l e ws) : ((n ≤ c ∧ c ≤ 9223372036854775807) ∧ n' ≤ c' ∧ c' ≤ 9223372036854775807) ∧ (m ≤ d ∧ d ≤ 9223372036854775807) ∧ l ≤ e ∧ e ≤ 9223372036854775807 := ⟨h.s.cap, h.r.cap, h.b.cap⟩
theorem OwnD.uLo (h : OwnD w lo a n c vs xss a' n' c' vs' yss p m d ps zss q l e ws) : ∀ g, DskS a n vs a' n' vs' p m ps q g → lo ≤ g := fun g hg => hg.elim (h.s.uLo g) fun hg => hg.elim (h.r.uLo g) (h.b.uLo g)
theorem OwnD.uHi (h : OwnD w lo a n c vs xss a' n' c' vs' yss p m d ps zss q l e ws) : ∀ g, DskS a n vs a' n' vs' p m ps q g → g < w.heap.size := fun g hg => hg.elim (h.s.uHi g) fun hg => hg.elim (h.r.uHi g) (h.b.uHi g)
theorem OwnD.uKeep (h : OwnD w lo a n c vs xss a' n' c' vs' yss p m d ps zss q l e ws) {S : Nat → Prop} (hm : Marked S w w') (hS : ∀ g, DskS a n vs a' n' vs' p m ps q g → ¬ S g) : OwnD w' lo a n c vs xss a' n' c' vs' yss p m d ps zss q l e ws :=
  ⟨h.s.uKeep hm fun g hg => hS g (.inl hg), h.r.uKeep hm fun g hg => hS g (.inr (.inl hg)), h.b.uKeep hm fun g hg => hS g (.inr (.inr hg))⟩
theorem OwnDD.below (h : OwnDD w lo a n c vs xss a' n' c' vs' yss p m d ps zss q l e ws) (hb : Below w.heap.size w w') : OwnDD w' lo a n c vs xss a' n' c' vs' yss p m d ps zss q l e ws := ⟨h.o.below hb, h.ap1, h.ap2, h.ap3⟩
theorem OwnDD.alloc (h : OwnDD w lo a n c vs xss a' n' c' vs' yss p m d ps zss q l e ws) (o : Obj) : OwnDD (w.alloc o) lo a n c vs xss a' n' c' vs' yss p m d ps zss q l e ws := ⟨h.o.alloc o, h.ap1, h.ap2, h.ap3⟩
theorem OwnDD.drewN (h : OwnDD w lo a n c vs xss a' n' c' vs' yss p m d ps zss q l e ws) (k : Nat) : OwnDD (w.drewN k) lo a n c vs xss a' n' c' vs' yss p m d ps zss q l e ws := ⟨h.o.drewN k, h.ap1, h.ap2, h.ap3⟩
theorem OwnDD.mono {lo' : Nat} (h : OwnDD w lo a n c vs xss a' n' c' vs' yss p m d ps zss q l e ws) (hl : lo' ≤ lo) : OwnDD w lo' a n c vs xss a' n' c' vs' yss p m d ps zss q l e ws := ⟨h.o.mono hl, h.ap1, h.ap2, h.ap3⟩
theorem OwnDD.cap (h : OwnDD w lo a n c vs xss a' n' c' vs' yss p m d ps zss q l e ws) : ((n ≤ c ∧ c ≤ 9223372036854775807) ∧ n' ≤ c' ∧ c' ≤ 9223372036854775807) ∧ (m ≤ d ∧ d ≤ 9223372036854775807) ∧ l ≤ e ∧ e ≤ 9223372036854775807 := h.o.cap
theorem OwnDD.uLo (h : OwnDD w lo a n c vs xss a' n' c' vs' yss p m d ps zss q l e ws) : ∀ g, DskS a n vs a' n' vs' p m ps q g → lo ≤ g := h.o.uLo
theorem OwnDD.uHi (h : OwnDD w lo a n c vs xss a' n' c' vs' yss p m d ps zss q l e ws) : ∀ g, DskS a n vs a' n' vs' p m ps q g → g < w.heap.size := h.o.uHi
theorem OwnDD.uKeep (h : OwnDD w lo a n c vs xss a' n' c' vs' yss p m d ps zss q l e ws) {S : Nat → Prop} (hm : Marked S w w') (hS : ∀ g, DskS a n vs a' n' vs' p m ps q g → ¬ S g) : OwnDD w' lo a n c vs xss a' n' c' vs' yss p m d ps zss q l e ws := ⟨h.o.uKeep hm hS, h.ap1, h.ap2, h.ap3⟩
end
end Go.Proofs.YtaddclaadbjnlaaGreat
