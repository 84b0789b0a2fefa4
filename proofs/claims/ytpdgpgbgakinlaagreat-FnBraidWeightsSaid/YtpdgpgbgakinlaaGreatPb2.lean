/-
  Walks and plain laws of this seat, some texts in one.
  No condition but bounds on lengths.
-/
import Derived.Test.YtpdgpgbgakinlaaGreatPb1
import Derived.IntWalk
namespace Go.Proofs.YtpdgpgbgakinlaaGreat
set_option maxRecDepth 100000
set_option linter.unusedVariables false
set_option linter.unusedSimpArgs false
open Go.RowKit
def rngB (lo hi x : Int) : Bool := decide (lo ≤ x) && decide (x ≤ hi)
def rowOk (n m : Int) (xs : List Int) : Bool := decide ((xs.length : Int) = n) && xs.all (rngB 0 (m - 1))
theorem all_get_succ {α : Type} {f : α → Bool} {xs : List α} {k : Nat} (hx : k < xs.length) (h1 : (xs.take k).all f = true) (h2 : f xs[k] = true) : (xs.take (k + 1)).all f = true := by
  rw [List.take_succ_eq_append_getElem hx, List.all_append, h1]; simp [h2]
theorem all_no {α : Type} {f : α → Bool} {xs : List α} {k : Nat} (hx : k < xs.length) (h : f xs[k] = false) : xs.all f = false := by
  rw [List.all_eq_false]; exact ⟨xs[k], List.getElem_mem hx, by simp [h]⟩
theorem within_b (v lo hi : Int) (b : Bool) (h : rngB lo hi v = b) (w : World) :
    Calls Tryz.prog 71 #[.int .i64 v, .int .i64 lo, .int .i64 hi] w fun e w' => e = .returned (.bool b) ∧ w = w' :=
  (within_any v lo hi w).mono fun e w' ⟨he, hw⟩ => ⟨he.trans (ret_bool h), hw⟩
theorem l01In_b (v lo hi : Int) (b : Bool) (h : rngB lo hi v = b) (w : World) :
    Calls Tryz.prog 96 #[.int .i64 v, .int .i64 lo, .int .i64 hi] w fun e w' => e = .returned (.bool b) ∧ w = w' :=
  (l01In_any v lo hi w).mono fun e w' ⟨he, hw⟩ => ⟨he.trans (ret_bool h), hw⟩
set_option maxHeartbeats 400000 in
theorem allWithin_any (a : Option Addr) (n c : Nat) (xs : List Int) (lo hi : Int) (w : World) (h1 : Row w a n xs) (hm : n ≤ 9223372036854775807) :
    Calls Tryz.prog 89 #[.slice a n c, .int .i64 lo, .int .i64 hi] w fun e w' => e = .returned (.bool (xs.all (rngB lo hi))) ∧ w = w' := by
  have hl := h1.len
  have HL := Lib.hid hl; clear hl
  go_enter Tryz.func89, Tryz.ntmps89
  go_wp2
  go_loop [11] (fun i => ∃ k : Nat, k ≤ n ∧ i = .int .i64 k ∧ Hid ((xs.take k).all (rngB lo hi) = true)) (fun i => n - (intOf i).toNat)
  case atStart => exact ⟨0, Nat.zero_le _, rfl, by simp [Hid]⟩
  case round =>
    obtain ⟨k, hk, rfl, hall⟩ := hrel
    by_cases hlt : k < n
    · obtain ⟨b, off, rfl, g1⟩ := h1.at k hlt
      have hx : k < xs.length := by have := HL.out; omega
      clear h1
      cases hp : rngB lo hi xs[k] with
      | true =>
        have HC := Lib.hid (fun w => within_b xs[k] lo hi true hp w)
        have HP := Lib.hid hp; clear hp
        go_wp2_with fail
        refine (HC.out _).mono ?_
        rintro e w' ⟨rfl, rfl⟩
        go_wp2
        go_round
        case rel => exact ⟨k + 1, by omega, by go_num, all_get_succ hx hall HP.out⟩
        case measure => simp [intOf]; omega
      | false =>
        have HC := Lib.hid (fun w => within_b xs[k] lo hi false hp w)
        have HP := Lib.hid hp; clear hp
        go_wp2_with fail
        refine (HC.out _).mono ?_
        rintro e w' ⟨rfl, rfl⟩
        go_wp2
        go_ret
        exact ⟨ret_bool (all_no hx HP.out).symm, rfl⟩
    · obtain rfl : k = n := by omega
      go_wp2
      go_ret
      have ha : (xs.take k).all (rngB lo hi) = true := hall
      rw [List.take_of_length_le (by have := HL.out; omega)] at ha
      exact ⟨ret_bool ha.symm, rfl⟩
/-! ### questions of rows at a function value that only reads -/
def idxT (p : List Int → Bool) (xs : List (List Int)) : Int := match xs.findIdx? p with | some i => (i : Int) | none => -1
theorem idxT_hit {p : List Int → Bool} {xs : List (List Int)} {k : Nat} (hk : k < xs.length) (h1 : (xs.take k).all (fun x => !p x) = true) (h2 : p xs[k] = true) : idxT p xs = k := by
  have : xs.findIdx? p = some k := by
    rw [List.findIdx?_eq_some_iff_getElem]
    refine ⟨hk, h2, fun j hj => ?_⟩
    have hj' : j < xs.length := by omega
    rw [List.all_eq_true] at h1
    have := h1 xs[j] (by rw [List.mem_take_iff_getElem]; exact ⟨j, by omega, rfl⟩)
    simpa using this
  simp [idxT, this]
theorem idxT_miss {p : List Int → Bool} {xs : List (List Int)} (h1 : xs.all (fun x => !p x) = true) : idxT p xs = -1 := by
  have : xs.findIdx? p = none := by
    rw [List.findIdx?_eq_none_iff]
    intro x hx
    rw [List.all_eq_true] at h1
    simpa using h1 x hx
  simp [idxT, this]
theorem idxT_any (p : List Int → Bool) (xs : List (List Int)) : decide (0 ≤ idxT p xs) = xs.any p := by
  unfold idxT
  cases h : xs.findIdx? p with
  | none => rw [List.findIdx?_eq_none_iff] at h; simp; intro x hx; simpa using h x hx
  | some i =>
    rw [List.findIdx?_eq_some_iff_getElem] at h
    obtain ⟨hi, hp, _⟩ := h
    have : xs.any p = true := List.any_eq_true.2 ⟨xs[i], List.getElem_mem hi, hp⟩
    simp [this]
set_option maxHeartbeats 1000000 in
theorem idxFunc_rows (Inv : World → Prop) (f : FuncId) (caps : Array Value) (p : List Int → Bool) (a : Option Addr) (n c : Nat) (xs : List (List Int)) (w : World) (hI : Inv w) (h1 : ∀ w1, Inv w1 → Tbl w1 a n xs) (hm : n ≤ 9223372036854775807)
    (hcf : Ent f) (hf : ∀ x ∈ xs, ∀ w1, Inv w1 → ∀ a' n' c', Row w1 a' n' x → n' ≤ 9223372036854775807 → Calls Tryz.prog f (#[.slice a' n' c'] ++ caps) w1 fun e w' => e = .returned (.bool (p x)) ∧ Inv w') :
    Calls Tryz.prog 133 #[.slice a n c, .func (.func f) #[] caps] w fun e w' => e = .returned (.int .i64 (idxT p xs)) ∧ Inv w' := by
  have hcf' : ∀ (args : Array Value) (w : World), (callFunc f args).run Tryz.prog w = .ok (.enter f args) w := hcf
  have HF := Lib.hid hf; clear hf
  have hl := (h1 w hI).len
  have HL := Lib.hid hl; clear hl
  have H1 := Lib.hid h1; clear h1
  have HI := Lib.hid hI; clear hI
  go_enter Tryz.func133, Tryz.ntmps133
  go_wp2
  go_loopw [8] (fun i wr => ∃ k : Nat, k ≤ n ∧ i = .int .i64 k ∧ Hid ((xs.take k).all (fun x => !p x) = true) ∧ Hid (Inv wr)) (fun i _ => n - (intOf i).toNat)
  case atStart => exact ⟨0, Nat.zero_le _, rfl, by simp [Hid], HI⟩
  case round =>
    obtain ⟨k, hk, rfl, hall, hi⟩ := hrel
    by_cases hlt : k < n
    · obtain ⟨b, off, ai, ni, ci, rfl, g1, hri, hni⟩ := (H1.out wr hi.out).at k hlt
      have hx : k < xs.length := by have := HL.out; omega
      rw [Tbl.getD hx] at hri
      have hc := HF.out xs[k] (List.getElem_mem hx) wr hi.out ai ni ci hri hni
      by_cases hp : p xs[k] = true
      · rw [hp] at hc
        have HC := Lib.hid hc; clear hc
        have HP := Lib.hid hp; clear hp
        go_wp2_with fail
        refine HC.out.mono ?_
        rintro e w' ⟨rfl, hi'⟩
        have HI' := Lib.hid hi'; clear hi'
        go_wp2
        go_ret
        exact ⟨ret_int (idxT_hit hx hall HP.out).symm, HI'.out⟩
      · have hp : p xs[k] = false := by simpa using hp
        rw [hp] at hc
        have HC := Lib.hid hc; clear hc
        have HP := Lib.hid hp; clear hp
        go_wp2_with fail
        refine HC.out.mono ?_
        rintro e w' ⟨rfl, hi'⟩
        have HI' := Lib.hid hi'; clear hi'
        go_wp2
        go_roundw
        case rel =>
          refine ⟨k + 1, by omega, by go_num, ?_, HI'⟩
          show ((xs.take (k + 1)).all (fun x => !p x)) = true
          have ha : (xs.take k).all (fun x => !p x) = true := hall
          rw [List.take_succ_eq_append_getElem hx, List.all_append, ha]; simp [HP.out]
        case measure => simp [intOf]; omega
    · obtain rfl : k = n := by omega
      go_wp2
      go_ret
      have ha : (xs.take k).all (fun x => !p x) = true := hall
      rw [List.take_of_length_le (by have := HL.out; omega)] at ha
      exact ⟨ret_int (idxT_miss ha).symm, hi.out⟩
set_option maxHeartbeats 400000 in
theorem containsFunc_rows (Inv : World → Prop) (f : FuncId) (caps : Array Value) (p : List Int → Bool) (a : Option Addr) (n c : Nat) (xs : List (List Int)) (w : World) (hI : Inv w) (h1 : ∀ w1, Inv w1 → Tbl w1 a n xs) (hm : n ≤ 9223372036854775807)
    (hcf : Ent f) (hf : ∀ x ∈ xs, ∀ w1, Inv w1 → ∀ a' n' c', Row w1 a' n' x → n' ≤ 9223372036854775807 → Calls Tryz.prog f (#[.slice a' n' c'] ++ caps) w1 fun e w' => e = .returned (.bool (p x)) ∧ Inv w') :
    Calls Tryz.prog 87 #[.slice a n c, .func (.func f) #[] caps] w fun e w' => e = .returned (.bool (xs.any p)) ∧ Inv w' := by
  have HF := Lib.hid hf; clear hf
  have H1 := Lib.hid h1; clear h1
  have HI := Lib.hid hI; clear hI
  go_enter Tryz.func87, Tryz.ntmps87
  go_wp2_with fail
  refine (idxFunc_rows Inv f caps p _ _ _ xs _ HI.out H1.out hm hcf HF.out).mono ?_
  rintro e w' ⟨rfl, hi'⟩
  have HI' := Lib.hid hi'; clear hi'
  go_wp2
  go_ret
  exact ⟨ret_bool (idxT_any p xs), HI'.out⟩
end Go.Proofs.YtpdgpgbgakinlaaGreat

namespace Go.Proofs.YtpdgpgbgakinlaaGreat
set_option linter.unusedVariables false
set_option linter.unusedSimpArgs false
def tv (t : List (List Int)) (x y : Nat) : Nat := ((t.getD x []).getD y 0).toNat
def isTab (t : List (List Int)) : Bool := rngB 1 12 (t.length : Int) && t.all (rowOk t.length t.length)
def Sq (n : Nat) (t : List (List Int)) : Prop := t.length = n ∧ ∀ x, x < n → (t.getD x []).length = n ∧ ∀ y, y < n → tv t x y < n ∧ (t.getD x []).getD y 0 = ((tv t x y : Nat) : Int)
theorem rowOk_get {n m : Int} {xs : List Int} (h : rowOk n m xs = true) : (xs.length : Int) = n ∧ ∀ y, y < xs.length → 0 ≤ xs.getD y 0 ∧ xs.getD y 0 < m := by
  unfold rowOk at h
  rw [Bool.and_eq_true] at h
  refine ⟨by simpa using h.1, fun y hy => ?_⟩
  have := List.all_eq_true.1 h.2 xs[y] (List.getElem_mem hy)
  unfold rngB at this
  have e : xs.getD y 0 = xs[y] := by simp [List.getD_eq_getElem?_getD, List.getElem?_eq_getElem hy]
  rw [e]
  simp at this
  omega
theorem isTab_sq {t : List (List Int)} (h : isTab t = true) : 1 ≤ t.length ∧ t.length ≤ 12 ∧ Sq t.length t := by
  unfold isTab at h
  rw [Bool.and_eq_true] at h
  have h1 : 1 ≤ t.length ∧ t.length ≤ 12 := by
    have := h.1; unfold rngB at this; simp at this; omega
  refine ⟨h1.1, h1.2, rfl, fun x hx => ?_⟩
  have hr := List.all_eq_true.1 h.2 t[x] (List.getElem_mem hx)
  have e : t.getD x [] = t[x] := by simp [List.getD_eq_getElem?_getD, List.getElem?_eq_getElem hx]
  obtain ⟨h2, h3⟩ := rowOk_get hr
  rw [e]
  refine ⟨by omega, fun y hy => ?_⟩
  have := h3 y (by omega)
  unfold tv
  rw [e]
  omega
theorem Sq.len {n : Nat} {t : List (List Int)} (h : Sq n t) : t.length = n := h.1
theorem Sq.lt {n : Nat} {t : List (List Int)} (h : Sq n t) {x y : Nat} (hx : x < n) (hy : y < n) : tv t x y < n := ((h.2 x hx).2 y hy).1
theorem Sq.row {n : Nat} {t : List (List Int)} (h : Sq n t) {x : Nat} (hx : x < n) : (t.getD x []).length = n := (h.2 x hx).1
theorem Sq.val {n : Nat} {t : List (List Int)} (h : Sq n t) {x y : Nat} (hx : x < n) (hy : y < n) : (t.getD x []).getD y 0 = ((tv t x y : Nat) : Int) := ((h.2 x hx).2 y hy).2
/-! ### all of the numbers less than n -/
def allN (n : Nat) (P : Nat → Bool) : Bool := (List.range n).all P
theorem allN_succ {n : Nat} {P : Nat → Bool} (h : allN n P = true) (h' : P n = true) : allN (n + 1) P = true := by
  unfold allN at *; rw [List.range_succ, List.all_append, h]; simp [h']
theorem allN_no {n k : Nat} {P : Nat → Bool} (hk : k < n) (h : P k = false) : allN n P = false := by
  unfold allN; rw [List.all_eq_false]; exact ⟨k, List.mem_range.2 hk, by simp [h]⟩
theorem allN_get {n k : Nat} {P : Nat → Bool} (h : allN n P = true) (hk : k < n) : P k = true := List.all_eq_true.1 h k (List.mem_range.2 hk)
/-! ### the equation, and pairs that are led to one pair -/
def eqAt (f g : List (List Int)) (x y z : Nat) : Bool :=
  let a1 := tv f x y; let b1 := tv g x y; let b2 := tv f b1 z; let c2 := tv g b1 z; let a3 := tv f a1 b2; let b3 := tv g a1 b2
  let e1 := tv f y z; let f1 := tv g y z; let d2 := tv f x e1; let e2 := tv g x e1; let e3 := tv f e2 f1; let f3 := tv g e2 f1
  (decide (a3 = d2) && decide (b3 = e3)) && decide (c2 = f3)
def eqOk (n : Nat) (f g : List (List Int)) : Bool := allN n fun x => allN n fun y => allN n fun z => eqAt f g x y z
def collAt (n : Nat) (f g : List (List Int)) (p q : Nat) : Bool := (!decide (p = q)) && (decide (tv f (p / n) (p % n) = tv f (q / n) (q % n)) && decide (tv g (p / n) (p % n) = tv g (q / n) (q % n)))
def collOk (n : Nat) (f g : List (List Int)) : Bool := allN (n * n) fun p => allN (n * n) fun q => !collAt n f g p q
def isPm (f g : List (List Int)) : Bool := isTab f && (isTab g && decide (f.length = g.length))
def isSol (f g : List (List Int)) : Bool := isPm f g && (collOk f.length f g && eqOk f.length f g)
theorem isPm_sq {f g : List (List Int)} (h : isPm f g = true) : 1 ≤ f.length ∧ f.length ≤ 12 ∧ Sq f.length f ∧ Sq f.length g := by
  unfold isPm at h
  rw [Bool.and_eq_true, Bool.and_eq_true] at h
  obtain ⟨h1, h2, h3⟩ := isTab_sq h.1
  obtain ⟨_, _, h4⟩ := isTab_sq h.2.1
  have e : f.length = g.length := by simpa using h.2.2
  exact ⟨h1, h2, h3, by rw [e]; exact h4⟩
theorem isSol_pm {f g : List (List Int)} (h : isSol f g = true) : isPm f g = true := by
  unfold isSol at h; rw [Bool.and_eq_true] at h; exact h.1
theorem isSol_sq {f g : List (List Int)} (h : isSol f g = true) : 1 ≤ f.length ∧ f.length ≤ 12 ∧ Sq f.length f ∧ Sq f.length g := isPm_sq (isSol_pm h)
end Go.Proofs.YtpdgpgbgakinlaaGreat

namespace Go.Proofs.YtpdgpgbgakinlaaGreat
set_option linter.unusedVariables false
set_option linter.unusedSimpArgs false
open Go.RowKit
structure Grid (w : World) (b off : Nat) (A O C : Nat → Nat) (n : Nat) (t : List (List Int)) : Prop where
  lt : b < w.heap.size
  row : ∀ x, x < n → w.cell? ⟨b, off + x, none⟩ = some (.slice (some ⟨A x, O x, none⟩) n (C x))
  rlt : ∀ x, x < n → A x < w.heap.size
  cell : ∀ x y, x < n → y < n → w.cell? ⟨A x, O x + y, none⟩ = some (.int .i64 ((tv t x y : Nat) : Int))
theorem Tbl.grid {w : World} {a : Option Addr} {n : Nat} {t : List (List Int)} (h : Tbl w a n t) (hs : Sq n t) (hn : 0 < n) : ∃ b off A O C, a = some ⟨b, off, none⟩ ∧ Grid w b off A O C n t := by
  obtain ⟨b, off, ai, ni, ci, ha, hb, _⟩ := h.2 0 hn
  have H : ∀ x, ∃ q : Nat × Nat × Nat, x < n → w.cell? ⟨b, off + x, none⟩ = some (.slice (some ⟨q.1, q.2.1, none⟩) n q.2.2) ∧ q.1 < w.heap.size ∧ ∀ y, y < n → w.cell? ⟨q.1, q.2.1 + y, none⟩ = some (.int .i64 ((tv t x y : Nat) : Int)) := by
    intro x
    by_cases hx : x < n
    · obtain ⟨b', off', ax, nx, cx, e, _, hc, hr, _⟩ := h.2 x hx
      rw [ha] at e; cases e
      have hl : nx = n := by rw [hr.len, hs.row hx]
      subst hl
      obtain ⟨bx, ox, e, hbx, hcx⟩ := hr.all hn
      subst e
      exact ⟨(bx, ox, cx), fun _ => ⟨hc, hbx, fun y hy => by rw [hcx y hy, hs.val hx hy]⟩⟩
    · exact ⟨(0, 0, 0), fun h => absurd h hx⟩
  obtain ⟨Q, hQ⟩ := Classical.axiomOfChoice H
  exact ⟨b, off, fun x => (Q x).1, fun x => (Q x).2.1, fun x => (Q x).2.2, ha, hb, fun x hx => (hQ x hx).1, fun x hx => (hQ x hx).2.1, fun x y hx hy => (hQ x hx).2.2 y hy⟩
section
variable {w w' : World} {b off n : Nat} {A O C : Nat → Nat} {t : List (List Int)}
theorem Grid.below (h : Grid w b off A O C n t) (hb : Below w.heap.size w w') : Grid w' b off A O C n t :=
  ⟨Nat.lt_of_lt_of_le h.lt hb.size, fun x hx => (hb.cell (p := ⟨b, off + x, none⟩) h.lt).trans (h.row x hx), fun x hx => Nat.lt_of_lt_of_le (h.rlt x hx) hb.size,
   fun x y hx hy => (hb.cell (p := ⟨A x, O x + y, none⟩) (h.rlt x hx)).trans (h.cell x y hx hy)⟩
theorem Grid.alloc (h : Grid w b off A O C n t) (o : Obj) : Grid (w.alloc o) b off A O C n t := h.below ((Below.refl _ _).alloc (Nat.le_refl _) o)
theorem Grid.drewN (h : Grid w b off A O C n t) (k : Nat) : Grid (w.drewN k) b off A O C n t := ⟨h.lt, h.row, h.rlt, h.cell⟩
theorem Grid.look (h : Grid w b off A O C n t) {x y : Nat} (hx : x < n) (hy : y < n) : w.cell? ⟨b, off + x, none⟩ = some (.slice (some ⟨A x, O x, none⟩) n (C x)) ∧ w.cell? ⟨A x, O x + y, none⟩ = some (.int .i64 ((tv t x y : Nat) : Int)) := ⟨h.row x hx, h.cell x y hx hy⟩
end
end Go.Proofs.YtpdgpgbgakinlaaGreat

namespace Go.Proofs.YtpdgpgbgakinlaaGreat
set_option maxRecDepth 100000
set_option linter.unusedVariables false
set_option linter.unusedSimpArgs false
open Go.RowKit
abbrev sAgg (a : Option Addr) (n c : Nat) (a' : Option Addr) (n' c' : Nat) : Value := .agg #[.slice a n c, .slice a' n' c']
abbrev rAgg (a : Option Addr) (n c : Nat) : Value := .agg #[.slice a n c]
set_option maxHeartbeats 400000 in
theorem isTable1_any (N : Nat) (b1 : Nat) (t1 : TypeId) (a : Option Addr) (n c : Nat) (xs : List Int) (w : World) (hL1 : Loc w b1 #[.int .i64 N] t1) (h1 : Row w a n xs) (hm : n ≤ 9223372036854775807) (hN1 : 1 ≤ N) (hN : N ≤ 12) :
    Calls Tryz.prog 145 #[.slice a n c, .pointer (some ⟨b1, 0, none⟩)] w fun e w' => e = .returned (.bool (!rowOk N N xs)) ∧ w = w' := by
  have l1 := hL1.one
  have hl := h1.len
  by_cases hn : n = N
  · have b1 : ((n : Int) != (N : Int)) = false := by subst hn; simp
    have hq : rowOk N N xs = xs.all (rngB 0 ((N : Int) - 1)) := by simp [rowOk, ← hl, hn]
    have HQ := Lib.hid hq; have HA := Lib.hid (fun w hr => allWithin_any a n c xs 0 ((N : Int) - 1) w hr hm); clear hq hl hn
    go_enter Tryz.func145, Tryz.ntmps145
    go_wp2_with fail
    refine (HA.out _ h1).mono ?_
    rintro e w' ⟨rfl, rfl⟩
    go_wp2
    go_ret
    exact ⟨ret_bool (by rw [HQ.out]), rfl⟩
  · have b1 : ((n : Int) != (N : Int)) = true := by simp; omega
    have hq : rowOk N N xs = false := by
      unfold rowOk
      have : ((xs.length : Int) = (N : Int)) = False := by simp; omega
      simp [this]
    have HQ := Lib.hid hq; clear hq hl hn
    go_enter Tryz.func145, Tryz.ntmps145
    go_wp2
    go_ret
    exact ⟨ret_bool (by rw [HQ.out]; rfl), rfl⟩
theorem ent_isTable1 : Ent 145 := fun _ _ => rfl
set_option maxHeartbeats 1000000 in
theorem isTable_any (a : Option Addr) (n c : Nat) (t : List (List Int)) (w : World) (h1 : Tbl w a n t) (hm : n ≤ 9223372036854775807) :
    Calls Tryz.prog 101 #[.slice a n c] w fun e w' => e = .returned (.bool (isTab t)) ∧ Below w.heap.size w w' := by
  have hl := h1.len
  have hB := below_al (Below.refl w.heap.size w) (.cells #[.int .i64 n] 2)
  cases hp : rngB 1 12 n with
  | false =>
    have hq : isTab t = false := by unfold isTab; rw [← hl, hp]; rfl
    have HQ := Lib.hid hq
    have HC := Lib.hid (fun w => within_b n 1 12 false hp w); clear hp hl hq
    go_enter Tryz.func101, Tryz.ntmps101
    go_wp2_with fail
    refine (HC.out _).mono ?_
    rintro e w' ⟨rfl, rfl⟩
    go_wp2
    go_ret
    exact ⟨ret_bool HQ.out.symm, hB⟩
  | true =>
    have hn12 : 1 ≤ n ∧ n ≤ 12 := by unfold rngB at hp; simp at hp; omega
    have HC := Lib.hid (fun w => within_b n 1 12 true hp w)
    have hq : isTab t = t.all (rowOk n n) := by unfold isTab; rw [← hl, hp]; rfl
    have HQ := Lib.hid hq; clear hq hl hp
    have hcl : ∀ x ∈ t, ∀ w1, (w.alloc (.cells #[.int .i64 n] 2)) = w1 → ∀ a' n' c', Row w1 a' n' x → n' ≤ 9223372036854775807 → Calls Tryz.prog 145 (#[.slice a' n' c'] ++ #[.pointer (some ⟨w.heap.size, 0, none⟩)]) w1 fun e w' => e = .returned (.bool (!rowOk n n x)) ∧ (w.alloc (.cells #[.int .i64 n] 2)) = w' := fun x hx w1 hw1 a' n' c' hr hn' => by
      subst hw1
      exact isTable1_any n _ _ a' n' c' x _ (Loc.new _ rfl _ _) hr hn' hn12.1 hn12.2
    have HCL := Lib.hid hcl; clear hcl
    go_enter Tryz.func101, Tryz.ntmps101
    go_wp2_with fail
    refine (HC.out _).mono ?_
    rintro e w' ⟨rfl, rfl⟩
    go_wp2_with fail
    refine (containsFunc_rows (fun w1 => (w.alloc (.cells #[.int .i64 n] 2)) = w1) 145 _ (fun x => !rowOk n n x) _ _ _ t _ rfl (fun w1 h => h ▸ h1.alloc _) hm ent_isTable1 HCL.out).mono ?_
    rintro e w' ⟨rfl, rfl⟩
    go_wp2
    go_ret
    refine ⟨ret_bool ?_, hB⟩
    rw [HQ.out]
    simp [List.any_eq_not_all_not]
end Go.Proofs.YtpdgpgbgakinlaaGreat

namespace Go.Proofs.YtpdgpgbgakinlaaGreat
set_option maxRecDepth 100000
set_option linter.unusedVariables false
set_option linter.unusedSimpArgs false
open Go.RowKit
def FltR (ok : Bool) (W w : World) (e : Ending) (w' : World) : Prop := ((ok = true ∧ e = .returned (.slice none 0 0)) ∨ (ok = false ∧ ∃ b n c, e = .returned (.slice (some ⟨b, 0, none⟩) n c))) ∧ Below W.heap.size W w'
theorem eq_reads (n : Nat) (f g : List (List Int)) (hf : Sq n f) (hg : Sq n g) {x y z : Nat} (hx : x < n) (hy : y < n) (hz : z < n) :
    ∃ a1 b1 b2 c2 a3 b3 e1 f1 d2 e2 e3 f3 : Nat, (a1 < n ∧ b1 < n ∧ b2 < n ∧ e1 < n ∧ f1 < n ∧ e2 < n) ∧
      (tv f x y = a1 ∧ tv g x y = b1 ∧ tv f b1 z = b2 ∧ tv g b1 z = c2 ∧ tv f a1 b2 = a3 ∧ tv g a1 b2 = b3) ∧
      (tv f y z = e1 ∧ tv g y z = f1 ∧ tv f x e1 = d2 ∧ tv g x e1 = e2 ∧ tv f e2 f1 = e3 ∧ tv g e2 f1 = f3) ∧
      eqAt f g x y z = ((decide (a3 = d2) && decide (b3 = e3)) && decide (c2 = f3)) :=
  ⟨_, _, _, _, _, _, _, _, _, _, _, _, ⟨hf.lt hx hy, hg.lt hx hy, hf.lt (hg.lt hx hy) hz, hf.lt hy hz, hg.lt hy hz, hg.lt hx (hf.lt hy hz)⟩, ⟨rfl, rfl, rfl, rfl, rfl, rfl⟩, ⟨rfl, rfl, rfl, rfl, rfl, rfl⟩, rfl⟩
set_option maxHeartbeats 4000000 in
theorem equationFault_any (a : Option Addr) (n c : Nat) (a' : Option Addr) (c' : Nat) (f g : List (List Int)) (w : World) (h1 : Tbl w a n f) (h2 : Tbl w a' n g) (hn1 : 1 ≤ n) (hn : n ≤ 12) (hf : Sq n f) (hg : Sq n g) :
    Calls Tryz.prog 83 #[sAgg a n c a' n c'] w (FltR (eqOk n f g) w w) := by
  obtain ⟨bf, of, A, O, C, rfl, Gf⟩ := h1.grid hf hn1
  obtain ⟨bg, og, A', O', C', rfl, Gg⟩ := h2.grid hg hn1
  clear h1 h2
  go_enter Tryz.func83, Tryz.ntmps83
  have hA := Loc.new w rfl #[.slice (some ⟨bf, of, none⟩) n c, .slice (some ⟨bg, og, none⟩) n c'] 26
  have lA := hA.two
  have gf := Gf.alloc (.cells #[.slice (some ⟨bf, of, none⟩) n c, .slice (some ⟨bg, og, none⟩) n c'] 26)
  have gg := Gg.alloc (.cells #[.slice (some ⟨bf, of, none⟩) n c, .slice (some ⟨bg, og, none⟩) n c'] 26)
  have hB := below_al (Below.refl w.heap.size w) (.cells #[.slice (some ⟨bf, of, none⟩) n c, .slice (some ⟨bg, og, none⟩) n c'] 26)
  clear Gf Gg
  go_wp2
  generalize (w.alloc (.cells #[.slice (some ⟨bf, of, none⟩) n c, .slice (some ⟨bg, og, none⟩) n c'] 26)) = w0 at *
  go_loopw [17] (fun i wr => ∃ k : Nat, k ≤ n ∧ i = .int .i64 k ∧ Hid (allN k (fun x => allN n fun y => allN n fun z => eqAt f g x y z) = true) ∧ ∃ m, wr = w0.drewN m) (fun i _ => n - (intOf i).toNat)
  case atStart => exact ⟨0, Nat.zero_le _, rfl, Lib.hid rfl, 0, rfl⟩
  case round =>
    obtain ⟨x, hx, rfl, hx1, m1, rfl⟩ := hrel
    by_cases hlt : x < n
    · go_wp2
      go_loopw [21] (fun i wr => ∃ k : Nat, k ≤ n ∧ i = .int .i64 k ∧ Hid (allN k (fun y => allN n fun z => eqAt f g x y z) = true) ∧ ∃ m, wr = w0.drewN m) (fun i _ => n - (intOf i).toNat)
      case atStart => exact ⟨0, Nat.zero_le _, rfl, Lib.hid rfl, m1, rfl⟩
      case round =>
        obtain ⟨y, hy, rfl, hy1, m2, rfl⟩ := hrel
        by_cases hlty : y < n
        · go_wp2
          go_loopw [25] (fun i wr => ∃ k : Nat, k ≤ n ∧ i = .int .i64 k ∧ Hid (allN k (fun z => eqAt f g x y z) = true) ∧ ∃ m, wr = w0.drewN m) (fun i _ => n - (intOf i).toNat)
          case atStart => exact ⟨0, Nat.zero_le _, rfl, Lib.hid rfl, m2, rfl⟩
          case round =>
            obtain ⟨z, hz, rfl, hz1, m3, rfl⟩ := hrel
            by_cases hltz : z < n
            · obtain ⟨a1, b1, b2, c2, a3, b3, e1, f1, d2, e2, e3, f3, ⟨l1, l2, l3, l4, l5, l6⟩, ⟨q1, q2, q3, q4, q5, q6⟩, ⟨q7, q8, q9, q10, q11, q12⟩, hE⟩ := eq_reads n f g hf hg hlt hlty hltz
              obtain ⟨r1, k1⟩ := gf.look hlt hlty
              obtain ⟨r2, k2⟩ := gg.look hlt hlty
              obtain ⟨r3, k3⟩ := gf.look l2 hltz
              obtain ⟨r4, k4⟩ := gg.look l2 hltz
              obtain ⟨r5, k5⟩ := gf.look l1 l3
              obtain ⟨r6, k6⟩ := gg.look l1 l3
              obtain ⟨r7, k7⟩ := gf.look hlty hltz
              obtain ⟨r8, k8⟩ := gg.look hlty hltz
              have k9 := gf.cell _ _ hlt l4
              have k10 := gg.cell _ _ hlt l4
              obtain ⟨r11, k11⟩ := gf.look l6 l5
              obtain ⟨r12, k12⟩ := gg.look l6 l5
              rw [q1] at k1; rw [q2] at k2; rw [q3] at k3; rw [q4] at k4; rw [q5] at k5; rw [q6] at k6; rw [q7] at k7; rw [q8] at k8; rw [q9] at k9; rw [q10] at k10; rw [q11] at k11; rw [q12] at k12
              have HE := Lib.hid hE
              clear q1 q2 q3 q4 q5 q6 q7 q8 q9 q10 q11 q12 hE gf gg hf hg
              go_wp2
              go_quiet (fail)
              go_wp2
              go_quiet (fail)
              go_wp2
              go_quiet (fail)
              go_wp2
              go_quiet (fail)
              go_wp2
              go_quiet (fail)
              go_wp2
              go_quiet (fail)
              clear r1 r2 r3 r4 r5 r6 r7 r8 r11 r12 k1 k2 k3 k4 k5 k6 k7 k8 k9 k10 k11 k12
              by_cases p1 : a3 = d2
              · by_cases p2 : b3 = e3
                · by_cases p3 : c2 = f3
                  · have u1 : ((a3 : Int) != (d2 : Int)) = false := by simp [p1]
                    have u2 : ((b3 : Int) != (e3 : Int)) = false := by simp [p2]
                    have u3 : ((c2 : Int) != (f3 : Int)) = false := by simp [p3]
                    have HE2 : Hid (eqAt f g x y z = true) := Lib.hid (by rw [HE.out]; simp [p1, p2, p3])
                    clear p1 p2 p3
                    go_wp2
                    go_roundw
                    case rel => exact ⟨z + 1, by omega, by go_num, Lib.hid (allN_succ hz1.out HE2.out), _, rfl⟩
                    case measure => simp [intOf]; omega
                  · have u1 : ((a3 : Int) != (d2 : Int)) = false := by simp [p1]
                    have u2 : ((b3 : Int) != (e3 : Int)) = false := by simp [p2]
                    have u3 : ((c2 : Int) != (f3 : Int)) = true := by simp; omega
                    have HE2 : Hid (eqAt f g x y z = false) := Lib.hid (by rw [HE.out]; simp [p3])
                    clear p1 p2 p3
                    go_wp2
                    go_ret
                    exact ⟨.inr ⟨allN_no hlt (allN_no hlty (allN_no hltz HE2.out)), _, _, _, rfl⟩, below_al (below_drewN hB _) _⟩
                · have u1 : ((a3 : Int) != (d2 : Int)) = false := by simp [p1]
                  have u2 : ((b3 : Int) != (e3 : Int)) = true := by simp; omega
                  have HE2 : Hid (eqAt f g x y z = false) := Lib.hid (by rw [HE.out]; simp [p2])
                  clear p1 p2
                  go_wp2
                  go_ret
                  exact ⟨.inr ⟨allN_no hlt (allN_no hlty (allN_no hltz HE2.out)), _, _, _, rfl⟩, below_al (below_drewN hB _) _⟩
              · have u1 : ((a3 : Int) != (d2 : Int)) = true := by simp; omega
                have HE2 : Hid (eqAt f g x y z = false) := Lib.hid (by rw [HE.out]; simp [p1])
                clear p1
                go_wp2
                go_ret
                exact ⟨.inr ⟨allN_no hlt (allN_no hlty (allN_no hltz HE2.out)), _, _, _, rfl⟩, below_al (below_drewN hB _) _⟩
            · obtain rfl : z = n := by omega
              go_wp2
              go_roundw
              case rel => exact ⟨y + 1, by omega, by go_num, Lib.hid (allN_succ hy1.out hz1.out), _, rfl⟩
              case measure => simp [intOf]; omega
        · obtain rfl : y = n := by omega
          go_wp2
          go_roundw
          case rel => exact ⟨x + 1, by omega, by go_num, Lib.hid (allN_succ hx1.out hy1.out), _, rfl⟩
          case measure => simp [intOf]; omega
    · obtain rfl : x = n := by omega
      go_wp2
      go_ret
      exact ⟨.inl ⟨hx1.out, rfl⟩, below_drewN hB _⟩
end Go.Proofs.YtpdgpgbgakinlaaGreat

namespace Go.Proofs.YtpdgpgbgakinlaaGreat
set_option maxRecDepth 100000
set_option linter.unusedVariables false
set_option linter.unusedSimpArgs false
open Go.RowKit
theorem quo_nat {p n : Nat} (hn : 1 ≤ n) (hp : p ≤ 1000000) : ((p : Int)).tdiv (n : Int) = ((p / n : Nat) : Int) := by
  rw [Int.tdiv_eq_ediv_of_nonneg (by omega)]; simp
theorem rem_nat {p n : Nat} (hn : 1 ≤ n) (hp : p ≤ 1000000) : ((p : Int)).tmod (n : Int) = ((p % n : Nat) : Int) := by
  rw [Int.tmod_eq_emod_of_nonneg (by omega)]; simp
theorem div_lt_sq {p n : Nat} (h : p < n * n) : p / n < n := Nat.div_lt_of_lt_mul h
set_option maxHeartbeats 4000000 in
theorem collisionOf_any (a : Option Addr) (n c : Nat) (a' : Option Addr) (c' : Nat) (f g : List (List Int)) (w : World) (h1 : Tbl w a n f) (h2 : Tbl w a' n g) (hn1 : 1 ≤ n) (hn : n ≤ 12) (hf : Sq n f) (hg : Sq n g) :
    Calls Tryz.prog 82 #[sAgg a n c a' n c'] w (FltR (collOk n f g) w w) := by
  obtain ⟨bf, of, A, O, C, rfl, Gf⟩ := h1.grid hf hn1
  obtain ⟨bg, og, A', O', C', rfl, Gg⟩ := h2.grid hg hn1
  clear h1 h2
  obtain ⟨N, hN⟩ : ∃ N, N = n * n := ⟨_, rfl⟩
  have hN144 : N ≤ 144 := by rw [hN]; exact Nat.mul_le_mul hn hn
  have hmul : (n : Int) * (n : Int) = (N : Int) := by rw [hN]; simp
  have HN := Lib.hid hN
  have HOK : Hid (collOk n f g = allN N fun p => allN N fun q => !collAt n f g p q) := Lib.hid (by rw [hN]; rfl)
  clear hN
  have hn0 : (n : Int) ≠ 0 := by omega
  go_enter Tryz.func82, Tryz.ntmps82
  have hA := Loc.new w rfl #[.slice (some ⟨bf, of, none⟩) n c, .slice (some ⟨bg, og, none⟩) n c'] 26
  have lA := hA.two
  have gf := Gf.alloc (.cells #[.slice (some ⟨bf, of, none⟩) n c, .slice (some ⟨bg, og, none⟩) n c'] 26)
  have gg := Gg.alloc (.cells #[.slice (some ⟨bf, of, none⟩) n c, .slice (some ⟨bg, og, none⟩) n c'] 26)
  have hB := below_al (Below.refl w.heap.size w) (.cells #[.slice (some ⟨bf, of, none⟩) n c, .slice (some ⟨bg, og, none⟩) n c'] 26)
  clear Gf Gg
  go_wp2
  generalize (w.alloc (.cells #[.slice (some ⟨bf, of, none⟩) n c, .slice (some ⟨bg, og, none⟩) n c'] 26)) = w0 at *
  go_loopw [16] (fun i wr => ∃ k : Nat, k ≤ N ∧ i = .int .i64 k ∧ Hid (allN k (fun p => allN N fun q => !collAt n f g p q) = true) ∧ ∃ m, wr = w0.drewN m) (fun i _ => N - (intOf i).toNat)
  case atStart => exact ⟨0, Nat.zero_le _, rfl, Lib.hid rfl, 0, rfl⟩
  case round =>
    obtain ⟨p, hp, rfl, hp1, m1, rfl⟩ := hrel
    by_cases hlt : p < N
    · have Qp := quo_nat (n := n) (p := p) hn1 (by omega)
      have Rp := rem_nat (n := n) (p := p) hn1 (by omega)
      have bx := div_lt_sq (n := n) (p := p) (by rw [← HN.out]; exact hlt)
      have bY := Nat.mod_lt p hn1
      generalize hx : p / n = x at Qp bx
      generalize hy : p % n = y at Rp bY
      have Wp : IntKind.i64.wrap (x : Int) = (x : Int) := IntWalk.i64_in _ (by omega)
      have Wr : IntKind.i64.wrap (y : Int) = (y : Int) := IntWalk.i64_in _ (by omega)
      have HX := Lib.hid hx; have HY := Lib.hid hy; clear hx hy
      go_wp2
      go_quiet (fail)
      go_wp2
      clear Qp Rp Wp Wr
      go_loopw [28] (fun i wr => ∃ k : Nat, k ≤ N ∧ i = .int .i64 k ∧ Hid (allN k (fun q => !collAt n f g p q) = true) ∧ ∃ m, wr = w0.drewN m) (fun i _ => N - (intOf i).toNat)
      case atStart => exact ⟨0, Nat.zero_le _, rfl, Lib.hid rfl, _, rfl⟩
      case round =>
        obtain ⟨q, hq, rfl, hq1, m2, rfl⟩ := hrel
        by_cases hltq : q < N
        · have Qq := quo_nat (n := n) (p := q) hn1 (by omega)
          have Rq := rem_nat (n := n) (p := q) hn1 (by omega)
          have bu := div_lt_sq (n := n) (p := q) (by rw [← HN.out]; exact hltq)
          have bv := Nat.mod_lt q hn1
          generalize hu : q / n = u at Qq bu
          generalize hv : q % n = v at Rq bv
          have Wq : IntKind.i64.wrap (u : Int) = (u : Int) := IntWalk.i64_in _ (by omega)
          have Wv : IntKind.i64.wrap (v : Int) = (v : Int) := IntWalk.i64_in _ (by omega)
          have hE : collAt n f g p q = ((!decide (p = q)) && (decide (tv f x y = tv f u v) && decide (tv g x y = tv g u v))) := by
            unfold collAt; rw [HX.out, HY.out, hu, hv]
          obtain ⟨r1, k1⟩ := gf.look bx bY
          obtain ⟨r2, k2⟩ := gf.look bu bv
          obtain ⟨r3, k3⟩ := gg.look bx bY
          obtain ⟨r4, k4⟩ := gg.look bu bv
          generalize tv f x y = A1 at hE k1
          generalize tv f u v = A2 at hE k2
          generalize tv g x y = A3 at hE k3
          generalize tv g u v = A4 at hE k4
          have HE := Lib.hid hE
          clear hE hu hv gf gg hf hg
          go_wp2
          go_quiet (fail)
          go_wp2
          clear Qq Rq Wq Wv
          by_cases p0 : p = q
          · have u0 : ((p : Int) != (q : Int)) = false := by simp [p0]
            have HE2 : Hid ((!collAt n f g p q) = true) := Lib.hid (by rw [HE.out]; simp [p0])
            clear p0
            go_quiet (fail)
            go_wp2
            go_roundw
            case rel => exact ⟨q + 1, by omega, by go_num, Lib.hid (allN_succ hq1.out HE2.out), _, rfl⟩
            case measure => simp [intOf]; omega
          · have u0 : ((p : Int) != (q : Int)) = true := by simp; omega
            by_cases p1 : A1 = A2
            · have u1 : ((A1 : Int) == (A2 : Int)) = true := by simp [p1]
              by_cases p2 : A3 = A4
              · have u2 : ((A3 : Int) == (A4 : Int)) = true := by simp [p2]
                have HE2 : Hid ((!collAt n f g p q) = false) := Lib.hid (by rw [HE.out]; simp [p0, p1, p2])
                clear p0 p1 p2
                go_quiet (fail)
                go_wp2
                go_ret
                exact ⟨.inr ⟨by rw [HOK.out]; exact allN_no hlt (allN_no hltq HE2.out), _, _, _, rfl⟩, below_al (below_drewN hB _) _⟩
              · have u2 : ((A3 : Int) == (A4 : Int)) = false := by simp; omega
                have HE2 : Hid ((!collAt n f g p q) = true) := Lib.hid (by rw [HE.out]; simp [p2])
                clear p0 p1 p2
                go_quiet (fail)
                go_wp2
                go_roundw
                case rel => exact ⟨q + 1, by omega, by go_num, Lib.hid (allN_succ hq1.out HE2.out), _, rfl⟩
                case measure => simp [intOf]; omega
            · have u1 : ((A1 : Int) == (A2 : Int)) = false := by simp; omega
              have HE2 : Hid ((!collAt n f g p q) = true) := Lib.hid (by rw [HE.out]; simp [p1])
              clear p0 p1
              go_quiet (fail)
              go_wp2
              go_roundw
              case rel => exact ⟨q + 1, by omega, by go_num, Lib.hid (allN_succ hq1.out HE2.out), _, rfl⟩
              case measure => simp [intOf]; omega
        · obtain rfl : q = N := by omega
          go_wp2
          go_roundw
          case rel => exact ⟨p + 1, by omega, by go_num, Lib.hid (allN_succ hp1.out hq1.out), _, rfl⟩
          case measure => simp [intOf]; omega
    · obtain rfl : p = N := by omega
      go_wp2
      go_ret
      exact ⟨.inl ⟨by rw [HOK.out]; exact hp1.out, rfl⟩, below_drewN hB _⟩
end Go.Proofs.YtpdgpgbgakinlaaGreat
