/-
  Rows within bounds, and questions of rows at a function value that only reads.
  No condition but bounds on lengths.
-/
import Derived.Test.YthkpdodhkgdiaaaTabO
import Derived.Test.YthkpdodhkgdiaaaBraidH
import Derived.Test.YthkpdodhkgdiaaaEnt
namespace Go.Proofs.Ythkpdodhkgdiaaa
set_option maxRecDepth 100000
set_option linter.unusedVariables false
set_option linter.unusedSimpArgs false
open Go.RowKit

def rngB (lo hi x : Int) : Bool := decide (lo ≤ x) && decide (x ≤ hi)
/-- a row of n numbers modulo m -/
def rowOk (n m : Int) (xs : List Int) : Bool := decide ((xs.length : Int) = n) && xs.all (rngB 0 (m - 1))

theorem all_get_succ {α : Type} {f : α → Bool} {xs : List α} {k : Nat} (hx : k < xs.length) (h1 : (xs.take k).all f = true) (h2 : f xs[k] = true) : (xs.take (k + 1)).all f = true := by
  rw [List.take_succ_eq_append_getElem hx, List.all_append, h1]; simp [h2]
theorem all_no {α : Type} {f : α → Bool} {xs : List α} {k : Nat} (hx : k < xs.length) (h : f xs[k] = false) : xs.all f = false := by
  rw [List.all_eq_false]; exact ⟨xs[k], List.getElem_mem hx, by simp [h]⟩

theorem within_b (v lo hi : Int) (b : Bool) (h : rngB lo hi v = b) (w : World) :
    Calls Try.prog 74 #[.int .i64 v, .int .i64 lo, .int .i64 hi] w fun e w' => e = .returned (.bool b) ∧ w = w' :=
  (within_any v lo hi w).mono fun e w' ⟨he, hw⟩ => ⟨he.trans (ret_bool h), hw⟩
theorem l01In_b (v lo hi : Int) (b : Bool) (h : rngB lo hi v = b) (w : World) :
    Calls Try.prog 72 #[.int .i64 v, .int .i64 lo, .int .i64 hi] w fun e w' => e = .returned (.bool b) ∧ w = w' :=
  (l01In_any v lo hi w).mono fun e w' ⟨he, hw⟩ => ⟨he.trans (ret_bool h), hw⟩

set_option maxHeartbeats 400000 in
theorem allWithin_any (a : Option Addr) (n c : Nat) (xs : List Int) (lo hi : Int) (w : World) (h1 : Row w a n xs) (hm : n ≤ 9223372036854775807) :
    Calls Try.prog 154 #[.slice a n c, .int .i64 lo, .int .i64 hi] w fun e w' => e = .returned (.bool (xs.all (rngB lo hi))) ∧ w = w' := by
  have hl := h1.len
  have HL := Lib.hid hl; clear hl
  go_enter Try.func154, Try.ntmps154
  go_wp2
  go_loop [11] (fun i => ∃ k : Nat, k ≤ n ∧ i = .int .i64 k ∧ Hid ((xs.take k).all (rngB lo hi) = true)) (fun i => n - (intOf i).toNat)
  case atStart => exact ⟨0, Nat.zero_le _, rfl, by simp [Hid]⟩
  case round =>
    obtain ⟨k, hk, rfl, hall⟩ := hrel
    by_cases hlt : k < n
    · obtain ⟨b, off, rfl, g1⟩ := h1.at k hlt
      have hx : k < xs.length := by have := HL.out; omega
      clear h1
      cases hp : rngB lo hi xs[k] with
      | true =>
        have HC := Lib.hid (fun w => within_b xs[k] lo hi true hp w)
        have HP := Lib.hid hp; clear hp
        go_wp2_with fail
        refine (HC.out _).mono ?_
        rintro e w' ⟨rfl, rfl⟩
        go_wp2
        go_round
        case rel => exact ⟨k + 1, by omega, by go_num, all_get_succ hx hall HP.out⟩
        case measure => simp [intOf]; omega
      | false =>
        have HC := Lib.hid (fun w => within_b xs[k] lo hi false hp w)
        have HP := Lib.hid hp; clear hp
        go_wp2_with fail
        refine (HC.out _).mono ?_
        rintro e w' ⟨rfl, rfl⟩
        go_wp2
        go_ret
        exact ⟨ret_bool (all_no hx HP.out).symm, rfl⟩
    · obtain rfl : k = n := by omega
      go_wp2
      go_ret
      have ha : (xs.take k).all (rngB lo hi) = true := hall
      rw [List.take_of_length_le (by have := HL.out; omega)] at ha
      exact ⟨ret_bool ha.symm, rfl⟩

/-! ### questions of rows at a function value that only reads -/
def idxT (p : List Int → Bool) (xs : List (List Int)) : Int := match xs.findIdx? p with | some i => (i : Int) | none => -1
theorem idxT_hit {p : List Int → Bool} {xs : List (List Int)} {k : Nat} (hk : k < xs.length) (h1 : (xs.take k).all (fun x => !p x) = true) (h2 : p xs[k] = true) : idxT p xs = k := by
  have : xs.findIdx? p = some k := by
    rw [List.findIdx?_eq_some_iff_getElem]
    refine ⟨hk, h2, fun j hj => ?_⟩
    have hj' : j < xs.length := by omega
    rw [List.all_eq_true] at h1
    have := h1 xs[j] (by rw [List.mem_take_iff_getElem]; exact ⟨j, by omega, rfl⟩)
    simpa using this
  simp [idxT, this]
theorem idxT_miss {p : List Int → Bool} {xs : List (List Int)} (h1 : xs.all (fun x => !p x) = true) : idxT p xs = -1 := by
  have : xs.findIdx? p = none := by
    rw [List.findIdx?_eq_none_iff]
    intro x hx
    rw [List.all_eq_true] at h1
    simpa using h1 x hx
  simp [idxT, this]
theorem idxT_any (p : List Int → Bool) (xs : List (List Int)) : decide (0 ≤ idxT p xs) = xs.any p := by
  unfold idxT
  cases h : xs.findIdx? p with
  | none => rw [List.findIdx?_eq_none_iff] at h; simp; intro x hx; simpa using h x hx
  | some i =>
    rw [List.findIdx?_eq_some_iff_getElem] at h
    obtain ⟨hi, hp, _⟩ := h
    have : xs.any p = true := List.any_eq_true.2 ⟨xs[i], List.getElem_mem hi, hp⟩
    simp [this]

set_option maxHeartbeats 1000000 in
theorem idxFunc_rows (Inv : World → Prop) (f : FuncId) (caps : Array Value) (p : List Int → Bool) (a : Option Addr) (n c : Nat) (xs : List (List Int)) (w : World) (hI : Inv w) (h1 : ∀ w1, Inv w1 → Tbl w1 a n xs) (hm : n ≤ 9223372036854775807)
    (hcf : Ent f) (hf : ∀ x ∈ xs, ∀ w1, Inv w1 → ∀ a' n' c', Row w1 a' n' x → n' ≤ 9223372036854775807 → Calls Try.prog f (#[.slice a' n' c'] ++ caps) w1 fun e w' => e = .returned (.bool (p x)) ∧ Inv w') :
    Calls Try.prog 215 #[.slice a n c, .func (.func f) #[] caps] w fun e w' => e = .returned (.int .i64 (idxT p xs)) ∧ Inv w' := by
  have hcf' : ∀ (args : Array Value) (w : World), (callFunc f args).run Try.prog w = .ok (.enter f args) w := hcf
  have HF := Lib.hid hf; clear hf
  have hl := (h1 w hI).len
  have HL := Lib.hid hl; clear hl
  have H1 := Lib.hid h1; clear h1
  have HI := Lib.hid hI; clear hI
  go_enter Try.func215, Try.ntmps215
  go_wp2
  go_loopw [8] (fun i wr => ∃ k : Nat, k ≤ n ∧ i = .int .i64 k ∧ Hid ((xs.take k).all (fun x => !p x) = true) ∧ Hid (Inv wr)) (fun i _ => n - (intOf i).toNat)
  case atStart => exact ⟨0, Nat.zero_le _, rfl, by simp [Hid], HI⟩
  case round =>
    obtain ⟨k, hk, rfl, hall, hi⟩ := hrel
    by_cases hlt : k < n
    · obtain ⟨b, off, ai, ni, ci, rfl, g1, hri, hni⟩ := (H1.out wr hi.out).at k hlt
      have hx : k < xs.length := by have := HL.out; omega
      rw [Tbl.getD hx] at hri
      have hc := HF.out xs[k] (List.getElem_mem hx) wr hi.out ai ni ci hri hni
      by_cases hp : p xs[k] = true
      · rw [hp] at hc
        have HC := Lib.hid hc; clear hc
        have HP := Lib.hid hp; clear hp
        go_wp2_with fail
        refine HC.out.mono ?_
        rintro e w' ⟨rfl, hi'⟩
        have HI' := Lib.hid hi'; clear hi'
        go_wp2
        go_ret
        exact ⟨ret_int (idxT_hit hx hall HP.out).symm, HI'.out⟩
      · have hp : p xs[k] = false := by simpa using hp
        rw [hp] at hc
        have HC := Lib.hid hc; clear hc
        have HP := Lib.hid hp; clear hp
        go_wp2_with fail
        refine HC.out.mono ?_
        rintro e w' ⟨rfl, hi'⟩
        have HI' := Lib.hid hi'; clear hi'
        go_wp2
        go_roundw
        case rel =>
          refine ⟨k + 1, by omega, by go_num, ?_, HI'⟩
          show ((xs.take (k + 1)).all (fun x => !p x)) = true
          have ha : (xs.take k).all (fun x => !p x) = true := hall
          rw [List.take_succ_eq_append_getElem hx, List.all_append, ha]; simp [HP.out]
        case measure => simp [intOf]; omega
    · obtain rfl : k = n := by omega
      go_wp2
      go_ret
      have ha : (xs.take k).all (fun x => !p x) = true := hall
      rw [List.take_of_length_le (by have := HL.out; omega)] at ha
      exact ⟨ret_int (idxT_miss ha).symm, hi.out⟩

set_option maxHeartbeats 400000 in
theorem containsFunc_rows (Inv : World → Prop) (f : FuncId) (caps : Array Value) (p : List Int → Bool) (a : Option Addr) (n c : Nat) (xs : List (List Int)) (w : World) (hI : Inv w) (h1 : ∀ w1, Inv w1 → Tbl w1 a n xs) (hm : n ≤ 9223372036854775807)
    (hcf : Ent f) (hf : ∀ x ∈ xs, ∀ w1, Inv w1 → ∀ a' n' c', Row w1 a' n' x → n' ≤ 9223372036854775807 → Calls Try.prog f (#[.slice a' n' c'] ++ caps) w1 fun e w' => e = .returned (.bool (p x)) ∧ Inv w') :
    Calls Try.prog 198 #[.slice a n c, .func (.func f) #[] caps] w fun e w' => e = .returned (.bool (xs.any p)) ∧ Inv w' := by
  have HF := Lib.hid hf; clear hf
  have H1 := Lib.hid h1; clear h1
  have HI := Lib.hid hI; clear hI
  go_enter Try.func198, Try.ntmps198
  go_wp2_with fail
  refine (idxFunc_rows Inv f caps p _ _ _ xs _ HI.out H1.out hm hcf HF.out).mono ?_
  rintro e w' ⟨rfl, hi'⟩
  have HI' := Lib.hid hi'; clear hi'
  go_wp2
  go_ret
  exact ⟨ret_bool (idxT_any p xs), HI'.out⟩


end Go.Proofs.Ythkpdodhkgdiaaa
