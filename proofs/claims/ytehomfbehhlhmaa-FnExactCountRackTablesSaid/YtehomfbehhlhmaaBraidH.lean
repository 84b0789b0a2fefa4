/-
  What the laws' own helpers compute over braids.
  No condition but bounds on lengths.
-/
import Derived.Test.YtehomfbehhlhmaaHelp
namespace Go.Proofs.Ytehomfbehhlhmaa
set_option maxRecDepth 100000
set_option linter.unusedVariables false
set_option linter.unusedSimpArgs false
open Go.RowKit

abbrev bAgg (s : Int) (a : Option Addr) (n c : Nat) : Value := .agg #[.int .i64 s, .slice a n c]

theorem within_any (v lo hi : Int) (w : World) :
    Calls Try.prog 80 #[.int .i64 v, .int .i64 lo, .int .i64 hi] w fun e w' => e = .returned (.bool (decide (lo ≤ v) && decide (v ≤ hi))) ∧ w = w' := by
  by_cases h : lo ≤ v
  all_goals
    go_enter Try.func80, Try.ntmps80
    go_wp2
    go_ret
    exact ⟨by first | (simp [h]; done) | (simp; omega), rfl⟩
theorem l01In_any (v lo hi : Int) (w : World) :
    Calls Try.prog 81 #[.int .i64 v, .int .i64 lo, .int .i64 hi] w fun e w' => e = .returned (.bool (decide (lo ≤ v) && decide (v ≤ hi))) ∧ w = w' := by
  by_cases h : lo ≤ v
  all_goals
    go_enter Try.func81, Try.ntmps81
    go_wp2
    go_ret
    exact ⟨by first | (simp [h]; done) | (simp; omega), rfl⟩

set_option maxHeartbeats 400000 in
theorem eqBraid_any (s1 s2 : Int) (a1 a2 : Option Addr) (n1 n2 c1 c2 : Nat) (xs ys : List Int) (w : World) (h1 : Row w a1 n1 xs) (h2 : Row w a2 n2 ys) (hm : n1 ≤ 9223372036854775807) :
    Calls Try.prog 16 #[bAgg s1 a1 n1 c1, bAgg s2 a2 n2 c2] w fun e w' => e = .returned (.bool (decide (s1 = s2 ∧ xs = ys))) ∧ Below w.heap.size w w' := by
  by_cases hs : s1 = s2
  · subst hs
    have hb : (s1 != s1) = false := by simp
    by_cases hx : xs = ys
    · have hd : decide (xs = ys) = true := by simpa using hx
      have hd2 : decide (s1 = s1 ∧ xs = ys) = true := by simpa using hx
      clear hx
      go_enter Try.func16, Try.ntmps16
      go_wp2_with (go_at_call 74; refine (eqInt64S_any _ _ _ _ _ _ xs ys _ ((h1.alloc _).alloc _) ((h2.alloc _).alloc _) (by omega)).mono ?_; rintro e w' ⟨rfl, k, rfl⟩; rw [hd])
      go_ret
      exact ⟨ret_bool (by simpa using hd2.symm), below_drewN (((Below.refl _ _).alloc (Nat.le_refl _) _).alloc (by simp) _) _⟩
    · have hd : decide (xs = ys) = false := by simpa using hx
      have hd2 : decide (s1 = s1 ∧ xs = ys) = false := by simpa using hx
      clear hx
      go_enter Try.func16, Try.ntmps16
      go_wp2_with (go_at_call 74; refine (eqInt64S_any _ _ _ _ _ _ xs ys _ ((h1.alloc _).alloc _) ((h2.alloc _).alloc _) (by omega)).mono ?_; rintro e w' ⟨rfl, k, rfl⟩; rw [hd])
      go_ret
      exact ⟨ret_bool (by simpa using hd2.symm), below_drewN (((Below.refl _ _).alloc (Nat.le_refl _) _).alloc (by simp) _) _⟩
  · have hb : (s1 != s2) = true := by simpa using hs
    have hd2 : decide (s1 = s2 ∧ xs = ys) = false := by simp [hs]
    clear hs
    go_enter Try.func16, Try.ntmps16
    go_wp2
    go_ret
    exact ⟨ret_bool (by simpa using hd2.symm), (((Below.refl _ _).alloc (Nat.le_refl _) _).alloc (by simp) _)⟩

theorem Touch.alloc_below {S : Nat → Prop} {B : Nat} {w w' : World} {o : Obj} (ht : Touch S (w.alloc o) w') (hB : B ≤ w.heap.size) (hS : ∀ k, S k → B ≤ k) : Below B w w' :=
  Touch.below ((Below.refl _ _).alloc hB o) ht hS

/-- a mark: blocks of which S does not speak, and that were there, are as they were -/
structure Marked (S : Nat → Prop) (w w' : World) : Prop where
  os : w'.os = w.os
  tape : w'.tape = w.tape
  output : w'.output = w.output
  size : w.heap.size ≤ w'.heap.size
  block : ∀ k, k < w.heap.size → ¬ S k → w'.heap[k]? = w.heap[k]?
theorem Marked.of_touch {S : Nat → Prop} {w w' : World} {o : Obj} (ht : Touch S (w.alloc o) w') : Marked S w w' :=
  ⟨ht.os, ht.tape, ht.output, by rw [ht.size]; simp, fun k hk hs => (ht.block k hs).trans (Below.heap_alloc _ _ _ hk)⟩
theorem Marked.below {S : Nat → Prop} {B : Nat} {w0 w w' : World} (h : Below B w0 w) (ht : Marked S w w') (hB : B ≤ w.heap.size) (hS : ∀ k, S k → B ≤ k) : Below B w0 w' :=
  h.trans ⟨ht.os, ht.tape, ht.output, ht.size, fun k hk => ht.block k (by omega) (fun hs => by have := hS k hs; omega)⟩
theorem Own.marked {w w' : World} {S : Nat → Prop} {lo : Nat} {a : Option Addr} {n c : Nat} {xs : List Int} (h : Own w lo a n c xs) (hm : Marked S w w') (hS : ∀ g, a = some ⟨g, 0, none⟩ → ¬ S g) : Own w' lo a n c xs := h.keep fun g hg hlt => hm.block g hlt (hS g hg)

set_option maxHeartbeats 400000 in
theorem markBraid_any (s : Int) (a : Option Addr) (n c lo : Nat) (xs : List Int) (k0 : Int) (w : World) (h1 : Own w lo a n c xs) (hk0 : 0 ≤ k0) (hm : k0 + n ≤ 9000000000000000000) :
    Calls Try.prog 17 #[bAgg s a n c, .int .i64 k0] w fun e w' => e = .returned (.int .i64 (k0 + n)) ∧ Own w' lo a n c (markL k0 n) ∧ Marked (fun g => a = some ⟨g, 0, none⟩) w w' := by
  go_enter Try.func17, Try.ntmps17
  go_wp2_with (go_at_call 75; refine (markInt64S_any _ _ _ _ _ _ _ (h1.alloc _) hk0 hm).mono ?_; rintro e w' ⟨rfl, ho, ht⟩)
  go_ret
  exact ⟨rfl, ho, Marked.of_touch ht⟩

set_option maxHeartbeats 400000 in
theorem heldBraid_any (s : Int) (a : Option Addr) (n c : Nat) (k0 : Int) (w : World) (h1 : Row w a n (markL k0 n)) (hk0 : 0 ≤ k0) (hm : k0 + n ≤ 9000000000000000000) :
    Calls Try.prog 18 #[bAgg s a n c, .int .i64 k0] w fun e w' => e = .returned (.int .i64 (k0 + n)) ∧ Below w.heap.size w w' := by
  go_enter Try.func18, Try.ntmps18
  go_wp2_with (go_at_call 76; refine (heldInt64S_any _ _ _ _ _ (h1.alloc _) hk0 hm).mono ?_; rintro e w' ⟨rfl, k, rfl⟩)
  go_ret
  exact ⟨rfl, below_drewN ((Below.refl _ _).alloc (Nat.le_refl _) _) _⟩

theorem eqBraid_same (s : Int) (a1 a2 : Option Addr) (n1 n2 c1 c2 : Nat) (xs : List Int) (w : World) (h1 : Row w a1 n1 xs) (h2 : Row w a2 n2 xs) (hm : n1 ≤ 9223372036854775807) :
    Calls Try.prog 16 #[bAgg s a1 n1 c1, bAgg s a2 n2 c2] w fun e w' => e = .returned (.bool true) ∧ Below w.heap.size w w' :=
  (eqBraid_any s s a1 a2 n1 n2 c1 c2 xs xs w h1 h2 hm).mono fun e w' ⟨he, hb⟩ => ⟨he.trans (ret_bool (by simp)), hb⟩
theorem Loc.marked {w w' : World} {S : Nat → Prop} {b : Nat} {cs : Array Value} {t : TypeId} (h : Loc w b cs t) (hm : Marked S w w') (hS : ¬ S b) : Loc w' b cs t := (hm.block b h.lt hS).trans h

/-- a braid and a code handed back in new memory -/
def RetB (w : World) (s : Int) (xs : List Int) (code : Int) (e : Ending) (w' : World) : Prop :=
  ∃ a n c, e = .returned (.tuple #[bAgg s a n c, .int .i64 code]) ∧ Own w' w.heap.size a n c xs ∧ Below w.heap.size w w'


end Go.Proofs.Ytehomfbehhlhmaa
