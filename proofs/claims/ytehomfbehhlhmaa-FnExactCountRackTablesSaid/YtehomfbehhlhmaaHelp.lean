/-
  What the laws' own helpers compute over slices of numbers and over braids: copies, equality, marks, sizes.
  No condition but bounds on lengths.
-/
import Derived.Test.YtehomfbehhlhmaaMem
import Derived.Deep.Draws
namespace Go.Proofs.Ytehomfbehhlhmaa
set_option maxRecDepth 100000
set_option linter.unusedVariables false
set_option linter.unusedSimpArgs false
open Go.RowKit

def markL (k : Int) (n : Nat) : List Int := (List.range n).map fun j : Nat => k + (j : Int)
theorem markL_length (k : Int) (n : Nat) : (markL k n).length = n := by simp [markL]
theorem markL_succ (k : Int) (n : Nat) : markL k (n + 1) = markL k n ++ [k + (n : Int)] := by simp [markL, List.range_succ]
theorem markL_getD (k : Int) (n i : Nat) (h : i < n) : (markL k n).getD i 0 = k + i := by
  simp [markL, List.getD_eq_getElem?_getD, List.getElem?_map, h]

/-- only blocks of which S speaks have turned; none has come -/
structure Touch (S : Nat → Prop) (w w' : World) : Prop where
  os : w'.os = w.os
  tape : w'.tape = w.tape
  output : w'.output = w.output
  size : w'.heap.size = w.heap.size
  block : ∀ k, ¬ S k → w'.heap[k]? = w.heap[k]?

theorem Touch.refl (S : Nat → Prop) (w : World) : Touch S w w := ⟨rfl, rfl, rfl, rfl, fun _ _ => rfl⟩
theorem Touch.trans {S : Nat → Prop} {a b c : World} (h : Touch S a b) (k : Touch S b c) : Touch S a c :=
  ⟨k.os.trans h.os, k.tape.trans h.tape, k.output.trans h.output, k.size.trans h.size, fun i hi => (k.block i hi).trans (h.block i hi)⟩
theorem Touch.set {S : Nat → Prop} {a b : World} (h : Touch S a b) {p : Addr} (hp : S p.block) (u : Value) : Touch S a (b.setCell p u) :=
  h.trans ⟨rfl, rfl, rfl, by simp [World.setCell], fun k hk => Below.heap_setCell _ _ _ _ (fun e => hk (e ▸ hp))⟩
theorem Touch.mono {S T : Nat → Prop} {a b : World} (h : Touch S a b) (hS : ∀ k, S k → T k) : Touch T a b := ⟨h.os, h.tape, h.output, h.size, fun k hk => h.block k (fun hs => hk (hS k hs))⟩
theorem Touch.drewN {S : Nat → Prop} {a b : World} (h : Touch S a b) (n : Nat) : Touch S a (b.drewN n) := ⟨h.os, h.tape, h.output, h.size, h.block⟩
theorem Touch.below {S : Nat → Prop} {B : Nat} {a b c : World} (h : Below B a b) (ht : Touch S b c) (hS : ∀ k, S k → B ≤ k) : Below B a c :=
  h.trans ⟨ht.os, ht.tape, ht.output, by rw [ht.size]; exact Nat.le_refl _, fun k hk => ht.block k (fun hs => by have := hS k hs; omega)⟩

theorem take_eq_succ {xs ys : List Int} {k : Nat} (hx : k < xs.length) (hy : k < ys.length) (h : xs.take k = ys.take k) (he : xs[k] = ys[k]) : xs.take (k + 1) = ys.take (k + 1) := by
  rw [List.take_succ_eq_append_getElem hx, List.take_succ_eq_append_getElem hy, h, he]

/-! ### sz -/
theorem szInt64S_ok (a : Option Addr) (n c : Nat) (L : Int) (w : World) (h0 : (n : Int) ≤ L) (h1 : L ≤ 1048576) :
    Calls Try.prog 171 #[.slice a n c, .int .i64 L] w fun e w' => e = .returned (.int .i64 (L - n)) ∧ w = w' := by
  go_enter Try.func171, Try.ntmps171
  go_wp2
  go_ret
  exact ⟨rfl, rfl⟩
theorem szInt64S_no (a : Option Addr) (n c : Nat) (L : Int) (w : World) (h0 : L < (n : Int)) (h1 : L ≤ 1048576) (h2 : 0 ≤ L) (h3 : n ≤ 9223372036854775807) :
    Calls Try.prog 171 #[.slice a n c, .int .i64 L] w fun e w' => e = .returned (.int .i64 (-1)) ∧ w = w' := by
  go_enter Try.func171, Try.ntmps171
  go_wp2
  go_ret
  exact ⟨rfl, rfl⟩

/-! ### eq -/
set_option maxHeartbeats 400000 in
theorem eqInt64S_any (a1 a2 : Option Addr) (n1 n2 c1 c2 : Nat) (xs ys : List Int) (w : World) (h1 : Row w a1 n1 xs) (h2 : Row w a2 n2 ys) (hm : n1 ≤ 9223372036854775807) :
    Calls Try.prog 74 #[.slice a1 n1 c1, .slice a2 n2 c2] w fun e w' => e = .returned (.bool (decide (xs = ys))) ∧ ∃ n, w' = w.drewN n := by
  have hl1 := h1.len
  have hl2 := h2.len
  by_cases hl : n1 = n2
  · subst hl
    have HL := Lib.hid hl1; have HL2 := Lib.hid hl2; clear hl1 hl2
    have hb : ((n1 : Int) != (n1 : Int)) = false := by simp
    go_enter Try.func74, Try.ntmps74
    go_wp2
    clear hb
    go_loopw [5] (fun i wr => ∃ k : Nat, k ≤ n1 ∧ i = .int .i64 k ∧ xs.take k = ys.take k ∧ ∃ n, wr = w.drewN n) (fun i _ => n1 - (intOf i).toNat)
    case atStart => exact ⟨0, Nat.zero_le _, rfl, by simp, 0, rfl⟩
    case round =>
      obtain ⟨k, hk, rfl, ht, n, rfl⟩ := hrel
      have HT := Lib.hid ht; clear ht
      by_cases hlt : k < n1
      · obtain ⟨b1, o1, rfl, g1⟩ := h1.at k hlt
        obtain ⟨b2, o2, rfl, g2⟩ := h2.at k hlt
        have hx : k < xs.length := by have := HL.out; omega
        have hy : k < ys.length := by have := HL2.out; omega
        clear h1 h2
        go_wp2
        go_quiet (fail)
        go_wp2
        · go_ret
          refine ⟨ret_bool ?_, n + nq, by rw [World.drewN_drewN]⟩
          rename_i hne
          simp only [Bool.false_eq, decide_eq_false_iff_not]
          rintro rfl
          simp at hne
        · go_roundw
          case rel =>
            rename_i hne
            refine ⟨k + 1, by omega, by go_num, take_eq_succ hx hy HT.out (by simpa using hne), n + nq, rfl⟩
          case measure => simp [intOf]; omega
      · obtain rfl : k = n1 := by omega
        go_wp2
        go_ret
        refine ⟨ret_bool ?_, _, rfl⟩
        have := HT.out
        rw [List.take_of_length_le (by have := HL.out; omega), List.take_of_length_le (by have := HL2.out; omega)] at this
        simp [this]
  · have hb : ((n1 : Int) != (n2 : Int)) = true := by simp; omega
    have hne : ¬ xs = ys := by rintro rfl; omega
    clear hl1 hl2
    go_enter Try.func74, Try.ntmps74
    go_wp2
    go_ret
    exact ⟨ret_bool (by simp [hne]), 0, rfl⟩

/-! ### held -/
set_option maxHeartbeats 400000 in
theorem heldInt64S_any (a : Option Addr) (n c : Nat) (k0 : Int) (w : World) (h1 : Row w a n (markL k0 n)) (hk0 : 0 ≤ k0) (hm : k0 + n ≤ 9000000000000000000) :
    Calls Try.prog 76 #[.slice a n c, .int .i64 k0] w fun e w' => e = .returned (.int .i64 (k0 + n)) ∧ ∃ m, w' = w.drewN m := by
  go_enter Try.func76, Try.ntmps76
  go_wp2
  go_loopw [1, 5] (fun k i wr => ∃ j : Nat, j ≤ n ∧ i = .int .i64 j ∧ k = .int .i64 (k0 + j) ∧ ∃ m, wr = w.drewN m) (fun _ i _ => n - (intOf i).toNat)
  case atStart => exact ⟨0, Nat.zero_le _, rfl, by simp, 0, rfl⟩
  case round =>
    obtain ⟨j, hj, rfl, rfl, m, rfl⟩ := hrel
    by_cases hlt : j < n
    · obtain ⟨b1, o1, rfl, g1⟩ := h1.at j hlt
      rw [markL_getD _ _ _ hlt] at g1
      have hb : ((k0 + (j : Int)) != (k0 + (j : Int))) = false := by simp
      clear h1
      go_wp2
      try go_quiet (fail)
      go_wp2
      go_roundw
      case rel => exact ⟨j + 1, by omega, by go_num, by go_num, _, rfl⟩
      case measure => simp [intOf]; omega
    · obtain rfl : j = n := by omega
      go_wp2
      go_ret
      exact ⟨rfl, _, rfl⟩

/-! ### mark -/
theorem mark_step (k : Int) (xs : List Int) (j : Nat) (h : j < xs.length) : (markL k j ++ xs.drop j).set j (k + j) = markL k (j + 1) ++ xs.drop (j + 1) := by
  rw [List.set_append_right _ _ (by rw [markL_length]; exact Nat.le_refl _), markL_length, Nat.sub_self, markL_succ, List.append_assoc]
  congr 1
  rw [List.drop_eq_getElem_cons h]; rfl

set_option maxHeartbeats 400000 in
theorem markInt64S_any (a : Option Addr) (n c lo : Nat) (xs : List Int) (k0 : Int) (w : World) (h1 : Own w lo a n c xs) (hk0 : 0 ≤ k0) (hm : k0 + n ≤ 9000000000000000000) :
    Calls Try.prog 75 #[.slice a n c, .int .i64 k0] w fun e w' => e = .returned (.int .i64 (k0 + n)) ∧ Own w' lo a n c (markL k0 n) ∧ Touch (fun g => a = some ⟨g, 0, none⟩) w w' := by
  go_enter Try.func75, Try.ntmps75
  go_wp2
  go_loopw [1, 5] (fun k i wr => ∃ j : Nat, j ≤ n ∧ i = .int .i64 j ∧ k = .int .i64 (k0 + j) ∧ Own wr lo a n c (markL k0 j ++ xs.drop j) ∧ Touch (fun g => a = some ⟨g, 0, none⟩) w wr) (fun _ i _ => n - (intOf i).toNat)
  case atStart => exact ⟨0, Nat.zero_le _, rfl, by simp, by simpa [markL] using h1, Touch.refl _ _⟩
  case round =>
    obtain ⟨j, hj, rfl, rfl, ho, ht⟩ := hrel
    by_cases hlt : j < n
    · obtain ⟨g, o, rfl, _⟩ := ho.row.at j hlt
      obtain ⟨rfl, hc, hf⟩ := ho.cells
      have hc1 := hc j hlt
      have hf1 := hf j
      clear hc hf
      go_wp2
      go_roundw
      case rel =>
        refine ⟨j + 1, by omega, by go_num, by go_num, ?_, ?_⟩
        · rw [← mark_step k0 xs j (by have := h1.len; omega)]
          exact ho.set j _
        · exact ht.set rfl _
      case measure => simp [intOf]; omega
    · obtain rfl : j = n := by omega
      go_wp2
      go_ret
      refine ⟨rfl, ?_, ht⟩
      rw [List.drop_of_length_le (by have := h1.len; omega), List.append_nil] at ho
      exact ho

/-! ### to -/
theorem copy_step (xs : List Int) (n j : Nat) (hl : n = xs.length) (h : j < n) : (xs.take j ++ List.replicate (n - j) 0).set j (xs[j]?.getD 0) = xs.take (j + 1) ++ List.replicate (n - (j + 1)) 0 := by
  have hx : j < xs.length := by omega
  have e : (xs.take j).length = j := by rw [List.length_take]; omega
  rw [List.set_append_right _ _ (by omega), e, Nat.sub_self, List.take_succ_eq_append_getElem hx, List.append_assoc]
  congr 1
  obtain ⟨m, hm⟩ : ∃ m, n - j = m + 1 := ⟨n - j - 1, by omega⟩
  have hm' : n - (j + 1) = m := by omega
  rw [hm, hm', List.replicate_succ]
  simp [List.getElem?_eq_getElem hx]

set_option maxHeartbeats 400000 in
theorem toInt64S_any (a : Option Addr) (n c : Nat) (xs : List Int) (w : World) (h1 : Row w a n xs) (hm : n ≤ 1048576) :
    Calls Try.prog 176 #[.slice a n c] w fun e w' => ∃ a' c', e = .returned (.slice a' n c') ∧ Own w' w.heap.size a' n c' xs ∧ Below w.heap.size w w' := by
  go_enter Try.func176, Try.ntmps176
  go_wp2_with (at_make; refine make1 rfl rfl rfl rfl (by omega) ?_; intro w1 ho hs hb)
  have hr1 := h1.below hb
  have hw1 := hb.size
  go_wp2
  go_loopw [4] (fun i wr => ∃ j : Nat, j ≤ n ∧ i = .int .i64 j ∧ Own wr w.heap.size (some ⟨w.heap.size, 0, none⟩) n n (xs.take j ++ List.replicate (n - j) 0) ∧ Below w.heap.size w wr) (fun i _ => n - (intOf i).toNat)
  case atStart => exact ⟨0, Nat.zero_le _, rfl, by simpa using ho, hb⟩
  case round =>
    clear ho hb hr1
    obtain ⟨j, hj, rfl, ho, hb⟩ := hrel
    by_cases hlt : j < n
    · have hr := h1.below hb
      have hl := h1.len
      obtain ⟨b, off, rfl, g1⟩ := hr.at j hlt
      obtain ⟨_, hc, hf⟩ := ho.cells
      have hc1 := hc j hlt
      have hf1 := hf j
      have HL := Lib.hid hl; clear hl
      clear hc hf hr h1
      go_wp2
      go_roundw
      case rel =>
        have hl := HL.out
        refine ⟨j + 1, by omega, by go_num, ?_, hb.setCell (by simp) _⟩
        have e := copy_step xs n j hl hlt
        rw [← e]
        exact ho.set j _
      case measure => simp [intOf]; omega
    · obtain rfl : j = n := by omega
      go_wp2
      go_ret
      refine ⟨_, _, rfl, ?_, hb⟩
      rw [List.take_of_length_le (by have := h1.len; omega), Nat.sub_self, List.replicate_zero, List.append_nil] at ho
      exact ho

end Go.Proofs.Ytehomfbehhlhmaa
