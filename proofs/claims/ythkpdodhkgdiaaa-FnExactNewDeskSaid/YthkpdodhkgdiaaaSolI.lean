/-
  Tables and pair maps: what the program's questions answer.
  No condition but bounds on lengths.
-/
import Derived.Test.YthkpdodhkgdiaaaGrid
namespace Go.Proofs.Ythkpdodhkgdiaaa
set_option maxRecDepth 100000
set_option linter.unusedVariables false
set_option linter.unusedSimpArgs false
open Go.RowKit

abbrev sAgg (a : Option Addr) (n c : Nat) (a' : Option Addr) (n' c' : Nat) : Value := .agg #[.slice a n c, .slice a' n' c']
abbrev rAgg (a : Option Addr) (n c : Nat) : Value := .agg #[.slice a n c]

set_option maxHeartbeats 400000 in
theorem isTable1_any (N : Nat) (b1 : Nat) (t1 : TypeId) (a : Option Addr) (n c : Nat) (xs : List Int) (w : World) (hL1 : Loc w b1 #[.int .i64 N] t1) (h1 : Row w a n xs) (hm : n ≤ 9223372036854775807) (hN1 : 1 ≤ N) (hN : N ≤ 12) :
    Calls Try.prog 199 #[.slice a n c, .pointer (some ⟨b1, 0, none⟩)] w fun e w' => e = .returned (.bool (!rowOk N N xs)) ∧ w = w' := by
  have l1 := hL1.one
  have hl := h1.len
  by_cases hn : n = N
  · have b1 : ((n : Int) != (N : Int)) = false := by subst hn; simp
    have hq : rowOk N N xs = xs.all (rngB 0 ((N : Int) - 1)) := by simp [rowOk, ← hl, hn]
    have HQ := Lib.hid hq; have HA := Lib.hid (fun w hr => allWithin_any a n c xs 0 ((N : Int) - 1) w hr hm); clear hq hl hn
    go_enter Try.func199, Try.ntmps199
    go_wp2_with fail
    refine (HA.out _ h1).mono ?_
    rintro e w' ⟨rfl, rfl⟩
    go_wp2
    go_ret
    exact ⟨ret_bool (by rw [HQ.out]), rfl⟩
  · have b1 : ((n : Int) != (N : Int)) = true := by simp; omega
    have hq : rowOk N N xs = false := by
      unfold rowOk
      have : ((xs.length : Int) = (N : Int)) = False := by simp; omega
      simp [this]
    have HQ := Lib.hid hq; clear hq hl hn
    go_enter Try.func199, Try.ntmps199
    go_wp2
    go_ret
    exact ⟨ret_bool (by rw [HQ.out]; rfl), rfl⟩
theorem ent_isTable1 : Ent 199 := fun _ _ => rfl

set_option maxHeartbeats 1000000 in
theorem isTable_any (a : Option Addr) (n c : Nat) (t : List (List Int)) (w : World) (h1 : Tbl w a n t) (hm : n ≤ 9223372036854775807) :
    Calls Try.prog 166 #[.slice a n c] w fun e w' => e = .returned (.bool (isTab t)) ∧ Below w.heap.size w w' := by
  have hl := h1.len
  have hB := below_al (Below.refl w.heap.size w) (.cells #[.int .i64 n] 2)
  cases hp : rngB 1 12 n with
  | false =>
    have hq : isTab t = false := by unfold isTab; rw [← hl, hp]; rfl
    have HQ := Lib.hid hq
    have HC := Lib.hid (fun w => within_b n 1 12 false hp w); clear hp hl hq
    go_enter Try.func166, Try.ntmps166
    go_wp2_with fail
    refine (HC.out _).mono ?_
    rintro e w' ⟨rfl, rfl⟩
    go_wp2
    go_ret
    exact ⟨ret_bool HQ.out.symm, hB⟩
  | true =>
    have hn12 : 1 ≤ n ∧ n ≤ 12 := by unfold rngB at hp; simp at hp; omega
    have HC := Lib.hid (fun w => within_b n 1 12 true hp w)
    have hq : isTab t = t.all (rowOk n n) := by unfold isTab; rw [← hl, hp]; rfl
    have HQ := Lib.hid hq; clear hq hl hp
    have hcl : ∀ x ∈ t, ∀ w1, (w.alloc (.cells #[.int .i64 n] 2)) = w1 → ∀ a' n' c', Row w1 a' n' x → n' ≤ 9223372036854775807 → Calls Try.prog 199 (#[.slice a' n' c'] ++ #[.pointer (some ⟨w.heap.size, 0, none⟩)]) w1 fun e w' => e = .returned (.bool (!rowOk n n x)) ∧ (w.alloc (.cells #[.int .i64 n] 2)) = w' := fun x hx w1 hw1 a' n' c' hr hn' => by
      subst hw1
      exact isTable1_any n _ _ a' n' c' x _ (Loc.new _ rfl _ _) hr hn' hn12.1 hn12.2
    have HCL := Lib.hid hcl; clear hcl
    go_enter Try.func166, Try.ntmps166
    go_wp2_with fail
    refine (HC.out _).mono ?_
    rintro e w' ⟨rfl, rfl⟩
    go_wp2_with fail
    refine (containsFunc_rows (fun w1 => (w.alloc (.cells #[.int .i64 n] 2)) = w1) 199 _ (fun x => !rowOk n n x) _ _ _ t _ rfl (fun w1 h => h ▸ h1.alloc _) hm ent_isTable1 HCL.out).mono ?_
    rintro e w' ⟨rfl, rfl⟩
    go_wp2
    go_ret
    refine ⟨ret_bool ?_, hB⟩
    rw [HQ.out]
    simp [List.any_eq_not_all_not]

end Go.Proofs.Ythkpdodhkgdiaaa
