/-
  What it is to be a braid, and what the program's and the reference's IsBraid compute.
  No condition but bounds on lengths.
-/
import Derived.Test.YtehomfbehhlhmaaBraidH
import Derived.Test.YtehomfbehhlhmaaOpen
import Derived.Test.YtehomfbehhlhmaaFuncs
namespace Go.Proofs.Ytehomfbehhlhmaa
set_option maxRecDepth 100000
set_option linter.unusedVariables false
set_option linter.unusedSimpArgs false
open Go.RowKit

/-- a letter of braids with s strands -/
def isLet (s x : Int) : Bool := decide (x ≠ 0) && (decide (wrap64 (1 - s) ≤ x) && decide (x ≤ wrap64 (s - 1)))
/-- a braid -/
def isBr (s : Int) (xs : List Int) : Bool := (decide (2 ≤ s) && decide (s ≤ 6)) && decide (xs.length ≤ 30) && xs.all (isLet s)

theorem isLetter_any (s x : Int) (w : World) (h1 : 2 ≤ s) (h2 : s ≤ 6) :
    Calls Try.prog 87 #[.int .i64 s, .int .i64 x] w fun e w' => e = .returned (.bool (isLet s x)) ∧ w = w' := by
  have e1 : wrap64 (1 - s) = 1 - s := IntWalk.wrap64_in _ ⟨by omega, by omega⟩
  have e2 : wrap64 (s - 1) = s - 1 := IntWalk.wrap64_in _ ⟨by omega, by omega⟩
  by_cases h : x = 0
  · subst h
    go_enter Try.func87, Try.ntmps87
    go_wp2_with (go_at_call 80; refine (within_any _ _ _ _).mono ?_; rintro e w' ⟨rfl, rfl⟩)
    go_ret
    exact ⟨ret_bool (by simp [isLet]), rfl⟩
  · have hb : (x != 0) = true := by simpa using h
    have HE1 := Lib.hid e1; have HE2 := Lib.hid e2; clear e1 e2
    have hr : isLet s x = (decide (1 - s ≤ x) && decide (x ≤ s - 1)) := by unfold isLet; rw [HE1.out, HE2.out]; simp [h]
    rw [hr]
    clear h
    go_enter Try.func87, Try.ntmps87
    go_wp2_with (go_at_call 80; refine (within_any _ _ _ _).mono ?_; rintro e w' ⟨rfl, rfl⟩)
    go_ret
    exact ⟨rfl, rfl⟩

theorem isBr_no {s : Int} {xs : List Int} {k : Nat} (hx : k < xs.length) (h : isLet s xs[k] = false) : isBr s xs = false := by
  have : xs.all (isLet s) = false := by
    rw [List.all_eq_false]; exact ⟨xs[k], List.getElem_mem hx, by simp [h]⟩
  simp [isBr, this]
theorem all_succ {f : Int → Bool} {xs : List Int} {k : Nat} (hx : k < xs.length) (h1 : (xs.take k).all f = true) (h2 : f xs[k] = true) : (xs.take (k + 1)).all f = true := by
  rw [List.take_succ_eq_append_getElem hx, List.all_append, h1]; simp [h2]

set_option maxHeartbeats 1000000 in
theorem l16Is_any (s : Int) (a : Option Addr) (n c : Nat) (xs : List Int) (w : World) (h1 : Row w a n xs) (hm : n ≤ 9223372036854775807) (hs : I64 s) :
    Calls Try.prog 102 #[bAgg s a n c] w fun e w' => e = .returned (.bool (isBr s xs)) ∧ Below w.heap.size w w' := by
  obtain ⟨hs1, hs2⟩ := hs
  go_enter Try.func102, Try.ntmps102
  go_wp2
  have hL : Loc (w.alloc (.cells #[.int .i64 s, .slice a n c] 24)) w.heap.size _ _ := Loc.new _ rfl _ _
  obtain ⟨W, hW⟩ : ∃ W, W = w.alloc (.cells #[.int .i64 s, .slice a n c] 24) := ⟨_, rfl⟩
  rw [← hW] at hL ⊢
  have hB : Below w.heap.size w W := hW ▸ (Below.refl _ _).alloc (Nat.le_refl _) _
  have hr := h1.below hB
  have hLL := hL.two
  clear hW h1
  have hl := hr.len
  have HL := Lib.hid hl; clear hl
  go_loopw [3] (fun i wr => ∃ k : Nat, k ≤ n ∧ i = .int .i64 k ∧ (xs.take k).all (isLet s) = true ∧ ∃ m, wr = W.drewN m) (fun i _ => n - (intOf i).toNat)
  case atStart => exact ⟨0, Nat.zero_le _, rfl, by simp, 0, rfl⟩
  case round =>
    obtain ⟨k, hk, rfl, hall, m, rfl⟩ := hrel
    have HA := Lib.hid hall; clear hall
    by_cases hlt : k < n
    · obtain ⟨b, off, rfl, g1⟩ := hr.at k hlt
      have hx : k < xs.length := by have := HL.out; omega
      clear hr
      by_cases h0 : xs[k] = 0
      · have hb : (xs[k] == 0) = true := by simpa using h0
        have H0 := Lib.hid h0; clear h0
        go_wp2
        go_quiet (fail)
        go_wp2
        go_ret
        exact ⟨ret_bool (isBr_no hx (by simp [isLet, H0.out])).symm, below_drewN (below_drewN hB _) _⟩
      · have hb : (xs[k] == 0) = false := by simpa using h0
        have hq : isLet s xs[k] = (decide (wrap64 (1 - s) ≤ xs[k]) && decide (xs[k] ≤ wrap64 (s - 1))) := by simp [isLet, h0]
        clear h0
        by_cases h2 : (decide (wrap64 (1 - s) ≤ xs[k]) && decide (xs[k] ≤ wrap64 (s - 1))) = true
        · have hq2 := hq.trans h2
          have HQ := Lib.hid hq2; clear hq hq2
          have hc : ∀ w', Calls Try.prog 81 #[.int .i64 xs[k], .int .i64 (wrap64 (1 - s)), .int .i64 (wrap64 (s - 1))] w' fun e w'' => e = .returned (.bool true) ∧ w'' = w' := fun w' => (l01In_any _ _ _ _).mono fun e w'' ⟨he, hw⟩ => ⟨he.trans (ret_bool h2), hw.symm⟩
          have HC := Lib.hid hc; clear hc h2
          go_wp2
          go_quiet ((go_at_call 81; exact quiet_same2 (HC.out _)))
          go_wp2
          go_roundw
          case rel => exact ⟨k + 1, by omega, by go_num, all_succ hx HA.out HQ.out, _, rfl⟩
          case measure => simp [intOf]; omega
        · have h2 : (decide (wrap64 (1 - s) ≤ xs[k]) && decide (xs[k] ≤ wrap64 (s - 1))) = false := by simpa using h2
          have hq2 := hq.trans h2
          have HQ := Lib.hid hq2; clear hq hq2
          have hc : ∀ w', Calls Try.prog 81 #[.int .i64 xs[k], .int .i64 (wrap64 (1 - s)), .int .i64 (wrap64 (s - 1))] w' fun e w'' => e = .returned (.bool false) ∧ w'' = w' := fun w' => (l01In_any _ _ _ _).mono fun e w'' ⟨he, hw⟩ => ⟨he.trans (ret_bool h2), hw.symm⟩
          have HC := Lib.hid hc; clear hc h2
          go_wp2
          go_quiet ((go_at_call 81; exact quiet_same2 (HC.out _)))
          go_wp2
          go_ret
          exact ⟨ret_bool (isBr_no hx HQ.out).symm, below_drewN (below_drewN hB _) _⟩
    · obtain rfl : k = n := by omega
      have hall := HA.out
      rw [List.take_of_length_le (by have := HL.out; omega)] at hall
      have HA2 := Lib.hid hall; clear hall
      have hf : isBr s xs = ((decide (2 ≤ s) && decide (s ≤ 6)) && decide (xs.length ≤ 30)) := by simp [isBr, HA2.out]
      have HF := Lib.hid hf; clear hf
      have hcc : ∀ w', Calls Try.prog 81 #[.int .i64 s, .int .i64 2, .int .i64 6] w' fun e w'' => e = .returned (.bool (decide (2 ≤ s) && decide (s ≤ 6))) ∧ w'' = w' := fun w' => (l01In_any _ _ _ _).mono fun e w'' ⟨he, hw⟩ => ⟨he, hw.symm⟩
      by_cases h26 : (decide (2 ≤ s) && decide (s ≤ 6)) = true
      · rw [h26] at hcc
        have HC := Lib.hid hcc; have H26 := Lib.hid h26; clear hcc h26
        go_wp2_with fail
        refine (HC.out _).mono ?_
        rintro e w' ⟨rfl, rfl⟩
        go_wp2
        go_ret
        exact ⟨ret_bool (by rw [HF.out, H26.out, ← HL.out]; simp; omega), below_drewN hB _⟩
      · have h26 : (decide (2 ≤ s) && decide (s ≤ 6)) = false := by simpa using h26
        rw [h26] at hcc
        have HC := Lib.hid hcc; have H26 := Lib.hid h26; clear hcc h26
        go_wp2_with fail
        refine (HC.out _).mono ?_
        rintro e w' ⟨rfl, rfl⟩
        go_wp2
        go_ret
        exact ⟨ret_bool (by rw [HF.out, H26.out]; simp), below_drewN hB _⟩

theorem isBraid1_any (s x : Int) (b : Nat) (v : Value) (t : TypeId) (w : World) (h1 : 2 ≤ s) (h2 : s ≤ 6) (hL : Loc w b #[.int .i64 s, v] t) :
    Calls Try.prog 86 #[.int .i64 x, .pointer (some ⟨b, 0, none⟩)] w fun e w' => e = .returned (.bool (!isLet s x)) ∧ w = w' := by
  have hc := hL.two
  go_enter Try.func86, Try.ntmps86
  go_wp2_with fail
  refine (isLetter_any _ _ _ h1 h2).mono ?_
  rintro e w' ⟨rfl, rfl⟩
  go_wp2
  go_ret
  exact ⟨rfl, rfl⟩

theorem ent_isBraid1 : Ent 86 := fun _ _ => rfl

set_option maxHeartbeats 1000000 in
theorem isBraid_any (s : Int) (a : Option Addr) (n c : Nat) (xs : List Int) (w : World) (h1 : Row w a n xs) (hm : n ≤ 9223372036854775807) :
    Calls Try.prog 27 #[bAgg s a n c] w fun e w' => e = .returned (.bool (isBr s xs)) ∧ Below w.heap.size w w' := by
  have hl := h1.len
  by_cases h26 : (decide (2 ≤ s) && decide (s ≤ 6)) = true
  · have h26' : 2 ≤ s ∧ s ≤ 6 := by simpa using h26
    have hcc : ∀ w', Calls Try.prog 80 #[.int .i64 s, .int .i64 2, .int .i64 6] w' fun e w'' => e = .returned (.bool true) ∧ w' = w'' := fun w' => by rw [← h26]; exact within_any _ _ _ _
    have HC := Lib.hid hcc; clear hcc
    obtain ⟨h2, h6⟩ := h26'
    by_cases hn : n ≤ 30
    · have hq : isBr s xs = xs.all (isLet s) := by
        unfold isBr; rw [h26, ← hl]; simp [hn]
      have HQ := Lib.hid hq; have H26 := Lib.hid h26; have HL := Lib.hid hl; clear hq h26 hl
      have hcl : ∀ x ∈ xs, Calls Try.prog 86 (#[.int .i64 x] ++ #[.pointer (some ⟨w.heap.size, 0, none⟩)]) (w.alloc (.cells #[.int .i64 s, .slice a n c] 24)) fun e w' => e = .returned (.bool (!isLet s x)) ∧ w.alloc (.cells #[.int .i64 s, .slice a n c] 24) = w' := fun x _ => by
        rw [show (#[Value.int .i64 x] ++ #[Value.pointer (some ⟨w.heap.size, 0, none⟩)] : Array Value) = #[.int .i64 x, .pointer (some ⟨w.heap.size, 0, none⟩)] from rfl]
        exact isBraid1_any s x _ _ _ _ h2 h6 (Loc.new _ rfl _ _)
      have HCL := Lib.hid hcl; clear hcl
      go_enter Try.func27, Try.ntmps27
      go_wp2_with fail
      refine (HC.out _).mono ?_
      rintro e w' ⟨rfl, rfl⟩
      go_wp2_with fail
      refine (containsFunc_ints 86 _ (fun x => !isLet s x) _ _ _ xs _ (h1.alloc _) hm ent_isBraid1 HCL.out).mono ?_
      rintro e w' ⟨rfl, rfl⟩
      go_wp2
      go_ret
      refine ⟨ret_bool ?_, (Below.refl _ _).alloc (Nat.le_refl _) _⟩
      rw [HQ.out]
      simp [List.any_eq_not_all_not]
    · have hq : isBr s xs = false := by
        unfold isBr; rw [← hl]; simp [hn]
      have HQ := Lib.hid hq; have H26 := Lib.hid h26; have HL := Lib.hid hl; clear hq h26 hl
      go_enter Try.func27, Try.ntmps27
      go_wp2_with fail
      refine (HC.out _).mono ?_
      rintro e w' ⟨rfl, rfl⟩
      go_wp2
      go_ret
      exact ⟨ret_bool HQ.out.symm, (Below.refl _ _).alloc (Nat.le_refl _) _⟩
  · have h26 : (decide (2 ≤ s) && decide (s ≤ 6)) = false := by simpa using h26
    have hcc : ∀ w', Calls Try.prog 80 #[.int .i64 s, .int .i64 2, .int .i64 6] w' fun e w'' => e = .returned (.bool false) ∧ w' = w'' := fun w' => by rw [← h26]; exact within_any _ _ _ _
    have HC := Lib.hid hcc; clear hcc
    have hq : isBr s xs = false := by unfold isBr; rw [h26]; simp
    have HQ := Lib.hid hq; clear hq h26 hl
    go_enter Try.func27, Try.ntmps27
    go_wp2_with fail
    refine (HC.out _).mono ?_
    rintro e w' ⟨rfl, rfl⟩
    go_wp2
    go_ret
    exact ⟨ret_bool HQ.out.symm, (Below.refl _ _).alloc (Nat.le_refl _) _⟩

theorem isBr_let {s : Int} {xs : List Int} (h : isBr s xs = true) : (2 ≤ s ∧ s ≤ 6) ∧ xs.length ≤ 30 ∧ ∀ x ∈ xs, x ≠ 0 ∧ 1 - s ≤ x ∧ x ≤ s - 1 := by
  simp only [isBr, Bool.and_eq_true, decide_eq_true_eq, List.all_eq_true] at h
  obtain ⟨⟨h1, h2⟩, h3⟩ := h
  have e1 : wrap64 (1 - s) = 1 - s := IntWalk.wrap64_in _ ⟨by omega, by omega⟩
  have e2 : wrap64 (s - 1) = s - 1 := IntWalk.wrap64_in _ ⟨by omega, by omega⟩
  refine ⟨h1, h2, fun x hx => ?_⟩
  have := h3 x hx
  simp only [isLet, Bool.and_eq_true, decide_eq_true_eq, e1, e2] at this
  exact this


end Go.Proofs.Ytehomfbehhlhmaa
