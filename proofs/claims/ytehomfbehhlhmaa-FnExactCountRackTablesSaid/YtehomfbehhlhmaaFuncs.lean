/-
  slices.IndexFunc and slices.ContainsFunc over numbers, at any function value that only reads.
  No condition but bounds on lengths.
-/
import Derived.Test.YtehomfbehhlhmaaMem
import Derived.Test.YtehomfbehhlhmaaEnt
namespace Go.Proofs.Ytehomfbehhlhmaa
set_option maxRecDepth 100000
set_option linter.unusedVariables false
set_option linter.unusedSimpArgs false
open Go.RowKit

def idxI (p : Int → Bool) (xs : List Int) : Int := match xs.findIdx? p with | some i => (i : Int) | none => -1
theorem idxI_hit {p : Int → Bool} {xs : List Int} {k : Nat} (hk : k < xs.length) (h1 : (xs.take k).all (fun x => !p x) = true) (h2 : p xs[k] = true) : idxI p xs = k := by
  have : xs.findIdx? p = some k := by
    rw [List.findIdx?_eq_some_iff_getElem]
    refine ⟨hk, h2, fun j hj => ?_⟩
    have hj' : j < xs.length := by omega
    rw [List.all_eq_true] at h1
    have := h1 xs[j] (by rw [List.mem_take_iff_getElem]; exact ⟨j, by omega, rfl⟩)
    simpa using this
  simp [idxI, this]
theorem idxI_miss {p : Int → Bool} {xs : List Int} (h1 : xs.all (fun x => !p x) = true) : idxI p xs = -1 := by
  have : xs.findIdx? p = none := by
    rw [List.findIdx?_eq_none_iff]
    intro x hx
    rw [List.all_eq_true] at h1
    simpa using h1 x hx
  simp [idxI, this]
theorem idxI_any (p : Int → Bool) (xs : List Int) : decide (0 ≤ idxI p xs) = xs.any p := by
  unfold idxI
  cases h : xs.findIdx? p with
  | none => rw [List.findIdx?_eq_none_iff] at h; simp; intro x hx; simpa using h x hx
  | some i =>
    rw [List.findIdx?_eq_some_iff_getElem] at h
    obtain ⟨hi, hp, _⟩ := h
    have : xs.any p = true := List.any_eq_true.2 ⟨xs[i], List.getElem_mem hi, hp⟩
    simp [this]
theorem idxI_lt (p : Int → Bool) (xs : List Int) : -1 ≤ idxI p xs ∧ idxI p xs < xs.length ∨ xs = [] := by
  unfold idxI
  cases h : xs.findIdx? p with
  | none => cases xs with
    | nil => exact .inr rfl
    | cons x l => left; simp; omega
  | some i =>
    rw [List.findIdx?_eq_some_iff_getElem] at h
    obtain ⟨hi, hp, _⟩ := h
    left; simp; omega

set_option maxHeartbeats 400000 in
theorem idxFunc_inv (Inv : World → Prop) (f : FuncId) (caps : Array Value) (p : Int → Bool) (a : Option Addr) (n c : Nat) (xs : List Int) (w : World) (hI : Inv w) (h1 : ∀ w1, Inv w1 → Row w1 a n xs) (hm : n ≤ 9223372036854775807)
    (hcf : Ent f) (hf : ∀ x ∈ xs, ∀ w1, Inv w1 → Calls Try.prog f (#[.int .i64 x] ++ caps) w1 fun e w' => e = .returned (.bool (p x)) ∧ Inv w') :
    Calls Try.prog 146 #[.slice a n c, .func (.func f) #[] caps] w fun e w' => e = .returned (.int .i64 (idxI p xs)) ∧ Inv w' := by
  have hcf' : ∀ (args : Array Value) (w : World), (callFunc f args).run Try.prog w = .ok (.enter f args) w := hcf
  have HF := Lib.hid hf; clear hf
  have hl := (h1 w hI).len
  have HL := Lib.hid hl; clear hl
  have H1 := Lib.hid h1; clear h1
  have HI := Lib.hid hI; clear hI
  go_enter Try.func146, Try.ntmps146
  go_wp2
  go_loopw [8] (fun i wr => ∃ k : Nat, k ≤ n ∧ i = .int .i64 k ∧ Hid ((xs.take k).all (fun x => !p x) = true) ∧ Hid (Inv wr)) (fun i _ => n - (intOf i).toNat)
  case atStart => exact ⟨0, Nat.zero_le _, rfl, by simp [Hid], HI⟩
  case round =>
    obtain ⟨k, hk, rfl, hall, hi⟩ := hrel
    by_cases hlt : k < n
    · obtain ⟨b, off, rfl, g1⟩ := (H1.out wr hi.out).at k hlt
      have hx : k < xs.length := by have := HL.out; omega
      have hc := HF.out xs[k] (List.getElem_mem hx) wr hi.out
      by_cases hp : p xs[k] = true
      · rw [hp] at hc
        have HC := Lib.hid hc; clear hc
        have HP := Lib.hid hp; clear hp
        go_wp2_with fail
        refine HC.out.mono ?_
        rintro e w' ⟨rfl, hi'⟩
        have HI' := Lib.hid hi'; clear hi'
        go_wp2
        go_ret
        exact ⟨ret_int (idxI_hit hx hall HP.out).symm, HI'.out⟩
      · have hp : p xs[k] = false := by simpa using hp
        rw [hp] at hc
        have HC := Lib.hid hc; clear hc
        have HP := Lib.hid hp; clear hp
        go_wp2_with fail
        refine HC.out.mono ?_
        rintro e w' ⟨rfl, hi'⟩
        have HI' := Lib.hid hi'; clear hi'
        go_wp2
        go_roundw
        case rel =>
          refine ⟨k + 1, by omega, by go_num, ?_, HI'⟩
          show ((xs.take (k + 1)).all (fun x => !p x)) = true
          have ha : (xs.take k).all (fun x => !p x) = true := hall
          rw [List.take_succ_eq_append_getElem hx, List.all_append, ha]; simp [HP.out]
        case measure => simp [intOf]; omega
    · obtain rfl : k = n := by omega
      go_wp2
      go_ret
      have ha : (xs.take k).all (fun x => !p x) = true := hall
      rw [List.take_of_length_le (by have := HL.out; omega)] at ha
      exact ⟨ret_int (idxI_miss ha).symm, hi.out⟩

set_option maxHeartbeats 400000 in
theorem containsFunc_inv (Inv : World → Prop) (f : FuncId) (caps : Array Value) (p : Int → Bool) (a : Option Addr) (n c : Nat) (xs : List Int) (w : World) (hI : Inv w) (h1 : ∀ w1, Inv w1 → Row w1 a n xs) (hm : n ≤ 9223372036854775807)
    (hcf : Ent f) (hf : ∀ x ∈ xs, ∀ w1, Inv w1 → Calls Try.prog f (#[.int .i64 x] ++ caps) w1 fun e w' => e = .returned (.bool (p x)) ∧ Inv w') :
    Calls Try.prog 85 #[.slice a n c, .func (.func f) #[] caps] w fun e w' => e = .returned (.bool (xs.any p)) ∧ Inv w' := by
  have HF := Lib.hid hf; clear hf
  have H1 := Lib.hid h1; clear h1
  have HI := Lib.hid hI; clear hI
  go_enter Try.func85, Try.ntmps85
  go_wp2_with fail
  refine (idxFunc_inv Inv f caps p _ _ _ xs _ HI.out H1.out hm hcf HF.out).mono ?_
  rintro e w' ⟨rfl, hi'⟩
  have HI' := Lib.hid hi'; clear hi'
  go_wp2
  go_ret
  exact ⟨ret_bool (idxI_any p xs), HI'.out⟩

theorem containsFunc_ints (f : FuncId) (caps : Array Value) (p : Int → Bool) (a : Option Addr) (n c : Nat) (xs : List Int) (w : World) (h1 : Row w a n xs) (hm : n ≤ 9223372036854775807)
    (hcf : Ent f) (hf : ∀ x ∈ xs, Calls Try.prog f (#[.int .i64 x] ++ caps) w fun e w' => e = .returned (.bool (p x)) ∧ w = w') :
    Calls Try.prog 85 #[.slice a n c, .func (.func f) #[] caps] w fun e w' => e = .returned (.bool (xs.any p)) ∧ w = w' :=
  containsFunc_inv (w = ·) f caps p a n c xs w rfl (fun w1 h => h ▸ h1) hm hcf (fun x hx w1 h => h ▸ hf x hx)

end Go.Proofs.Ytehomfbehhlhmaa
