/-
  Permutations: the unit, the inverse: what the program's and the reference's functions compute.
  No condition but bounds.
-/
import Derived.Test.YtehomfbehhlhmaaSlices
import Derived.Test.YtehomfbehhlhmaaBraidH
import Derived.BigRegion
import Derived.Deep.RegionHeld3
namespace Go.Proofs.Ytehomfbehhlhmaa
set_option maxRecDepth 100000
set_option linter.unusedVariables false
set_option linter.unusedSimpArgs false
open Go.RowKit

def unitL (n : Nat) : List Int := (List.range n).map fun i : Nat => (i : Int)
theorem unitL_len (n : Nat) : (unitL n).length = n := by simp [unitL]
theorem unitL_succ (n : Nat) : unitL (n + 1) = unitL n ++ [(n : Int)] := by simp [unitL, List.range_succ]
theorem unitL_get (n i : Nat) (h : i < n) : (unitL n).getD i 0 = i := by
  simp [unitL, List.getD_eq_getElem?_getD, List.getElem?_map, h]
theorem unit_step (n j : Nat) (h : j < n) : (unitL j ++ List.replicate (n - j) 0).set j (j : Int) = unitL (j + 1) ++ List.replicate (n - (j + 1)) 0 := by
  rw [List.set_append_right _ _ (by rw [unitL_len]; omega), unitL_len, Nat.sub_self, unitL_succ, List.append_assoc]
  congr 1
  obtain ⟨m, hm⟩ : ∃ m, n - j = m + 1 := ⟨n - j - 1, by omega⟩
  have hm' : n - (j + 1) = m := by omega
  rw [hm, hm', List.replicate_succ]
  simp

theorem getD_at {p : List Int} {k : Nat} (h : k < p.length) : p.getD k 0 = p[k] := by simp [List.getD_eq_getElem?_getD, h]
/-- out[p[x]] = x for the first k places -/
def backK (p : List Int) (k : Nat) : List Int := (List.range k).foldl (fun a x => a.set (p.getD x 0).toNat (x : Int)) (List.replicate p.length 0)
theorem backK_succ (p : List Int) (k : Nat) : backK p (k + 1) = (backK p k).set (p.getD k 0).toNat (k : Int) := by
  simp [backK, List.range_succ]
theorem backK_len (p : List Int) (k : Nat) : (backK p k).length = p.length := by
  induction k with
  | zero => simp [backK]
  | succ k ih => rw [backK_succ, List.length_set, ih]
def backF (p : List Int) : List Int := backK p p.length
theorem backF_len (p : List Int) : (backF p).length = p.length := backK_len _ _

set_option maxHeartbeats 1000000 in
theorem identity_any (n : Nat) (w : World) (hn : n ≤ 1000000) :
    Calls Try.prog 186 #[.int .i64 n] w fun e w' => ∃ a c, e = .returned (.slice a n c) ∧ Own w' w.heap.size a n c (unitL n) ∧ Below w.heap.size w w' := by
  go_enter Try.func186, Try.ntmps186
  go_wp2_with (at_make; refine make1 rfl rfl rfl rfl (by omega) ?_; intro w1 ho hs hb)
  go_loopw [9] (fun i wr => ∃ (k : Nat), k ≤ n ∧ i = .int .i64 k ∧ Own wr w.heap.size (some ⟨w.heap.size, 0, none⟩) n n (unitL k ++ List.replicate (n - k) 0) ∧ Below w.heap.size w wr) (fun i _ => n - (intOf i).toNat)
  case atStart => exact ⟨0, Nat.zero_le _, rfl, by simpa [unitL] using ho, hb⟩
  case round =>
    clear ho hb
    obtain ⟨k, hk, rfl, ho, hb⟩ := hrel
    by_cases hlt : k < n
    · have hs := ho.set k k
      rw [unit_step n k hlt] at hs
      have hcf := ho.cells.2.2 k
      have hcc := ho.cells.2.1 k hlt
      have HS := Lib.hid hs; clear hs
      go_wp2
      go_roundw
      case rel => exact ⟨k + 1, by omega, by go_num, HS.out, hb.setCell (by simp) _⟩
      case measure => simp [intOf]; omega
    · obtain rfl : k = n := by omega
      go_wp2
      go_ret
      rw [Nat.sub_self, List.replicate_zero, List.append_nil] at ho
      exact ⟨_, _, rfl, ho, hb⟩

set_option maxHeartbeats 1000000 in
theorem l01Unit_any (n : Nat) (w : World) (hn : n ≤ 1000000) :
    Calls Try.prog 105 #[.int .i64 n] w fun e w' => ∃ a c, e = .returned (.slice a n c) ∧ Own w' w.heap.size a n c (unitL n) ∧ Below w.heap.size w w' := by
  go_enter Try.func105, Try.ntmps105
  go_wp2
  go_loopw [3, 4] (fun s i wr => ∃ (k : Nat) (a : Option Addr) (m c : Nat), k ≤ n ∧ s = .slice a m c ∧ i = .int .i64 k ∧ Own wr w.heap.size a m c (unitL k) ∧ Below w.heap.size w wr) (fun _ i _ => n - (intOf i).toNat)
  case atStart => exact ⟨0, _, 0, 0, Nat.zero_le _, rfl, rfl, Own.fresh w rfl, (Below.refl _ _).alloc (Nat.le_refl _) _⟩
  case round =>
    obtain ⟨k, a, m, c, hk, rfl, rfl, ho, hb⟩ := hrel
    obtain rfl : k = m := by have := ho.len; rw [unitL_len] at this; exact this.symm
    by_cases hlt : k < n
    · have hzz := hb.size
      go_wp2_with (at_builtin; refine app1 rfl rfl ho rfl rfl (by omega) hzz ?_; intro g' c' w' hO' hg' hs' hb'; clear hg')
      go_roundw
      case rel => exact ⟨k + 1, _, _, _, by omega, rfl, by go_num, by rw [unitL_succ]; exact hO', hb.trans hb'⟩
      case measure => simp [intOf]; omega
    · obtain rfl : k = n := by omega
      go_wp2
      go_ret
      exact ⟨_, _, rfl, ho, hb⟩

set_option maxHeartbeats 1000000 in
theorem inverse_any (a : Option Addr) (n c : Nat) (p : List Int) (w : World) (h1 : Row w a n p) (hm : n ≤ 1000000) (hp : ∀ x ∈ p, 0 ≤ x ∧ x < n) :
    Calls Try.prog 187 #[.slice a n c] w fun e w' => ∃ a' c', e = .returned (.slice a' n c') ∧ Own w' w.heap.size a' n c' (backF p) ∧ Below w.heap.size w w' := by
  have hl := h1.len
  have HP := Lib.hid hp; clear hp
  have HL := Lib.hid hl; clear hl
  go_enter Try.func187, Try.ntmps187
  go_wp2_with (at_make; refine make1 rfl rfl rfl rfl (by omega) ?_; intro w1 ho hs hb)
  go_loopw [11] (fun i wr => ∃ (k : Nat), k ≤ n ∧ i = .int .i64 k ∧ Own wr w.heap.size (some ⟨w.heap.size, 0, none⟩) n n (backK p k) ∧ Below w.heap.size w wr) (fun i _ => n - (intOf i).toNat)
  case atStart => exact ⟨0, Nat.zero_le _, rfl, by have e := HL.out; rw [e] at ho; simpa [backK, ← e] using ho, hb⟩
  case round =>
    clear ho hb
    obtain ⟨k, hk, rfl, ho, hb⟩ := hrel
    have hr := h1.below hb
    by_cases hlt : k < n
    · obtain ⟨b, off, rfl, g1⟩ := hr.at k hlt
      have hx : k < p.length := by have := HL.out; omega
      obtain ⟨x, hxx⟩ : ∃ x : Nat, p.getD k 0 = x := ⟨(p.getD k 0).toNat, by
        have h := HP.out p[k] (List.getElem_mem hx)
        rw [getD_at hx]; omega⟩
      have hxn : x < n := by
        have h := HP.out p[k] (List.getElem_mem hx)
        rw [getD_at hx] at hxx; omega
      rw [hxx] at g1
      have hs := ho.set x k
      have e : backK p (k + 1) = (backK p k).set x (k : Int) := by rw [backK_succ, hxx]; rfl
      rw [← e] at hs
      have hcf := ho.cells.2.2 x
      have hcc := ho.cells.2.1 x hxn
      have HS := Lib.hid hs; clear hs e hxx
      clear h1
      go_wp2
      go_roundw
      case rel => exact ⟨k + 1, by omega, by go_num, HS.out, hb.setCell (by simp) _⟩
      case measure => simp [intOf]; omega
    · obtain rfl : k = n := by omega
      go_wp2
      go_ret
      have e : backF p = backK p k := by unfold backF; rw [← HL.out]
      rw [← e] at ho
      exact ⟨_, _, rfl, ho, hb⟩

set_option maxHeartbeats 1000000 in
theorem l01Back_any (a : Option Addr) (n c : Nat) (p : List Int) (w : World) (h1 : Row w a n p) (hm : n ≤ 1000000) (hp : ∀ x ∈ p, 0 ≤ x ∧ x < n) :
    Calls Try.prog 197 #[.slice a n c] w fun e w' => ∃ a' c', e = .returned (.slice a' n c') ∧ Own w' w.heap.size a' n c' (backF p) ∧ Below w.heap.size w w' := by
  have hl := h1.len
  have HP := Lib.hid hp; clear hp
  have HL := Lib.hid hl; clear hl
  go_enter Try.func197, Try.ntmps197
  go_wp2_with (at_make; refine make1 rfl rfl rfl rfl (by omega) ?_; intro w1 ho hs hb)
  go_loopw [4] (fun i wr => ∃ (k : Nat), k ≤ n ∧ i = .int .i64 k ∧ Own wr w.heap.size (some ⟨w.heap.size, 0, none⟩) n n (backK p k) ∧ Below w.heap.size w wr) (fun i _ => n - (intOf i).toNat)
  case atStart => exact ⟨0, Nat.zero_le _, rfl, by have e := HL.out; rw [e] at ho; simpa [backK, ← e] using ho, hb⟩
  case round =>
    clear ho hb
    obtain ⟨k, hk, rfl, ho, hb⟩ := hrel
    have hr := h1.below hb
    by_cases hlt : k < n
    · obtain ⟨b, off, rfl, g1⟩ := hr.at k hlt
      have hx : k < p.length := by have := HL.out; omega
      obtain ⟨x, hxx⟩ : ∃ x : Nat, p.getD k 0 = x := ⟨(p.getD k 0).toNat, by
        have h := HP.out p[k] (List.getElem_mem hx)
        rw [getD_at hx]; omega⟩
      have hxn : x < n := by
        have h := HP.out p[k] (List.getElem_mem hx)
        rw [getD_at hx] at hxx; omega
      rw [hxx] at g1
      have hs := ho.set x k
      have e : backK p (k + 1) = (backK p k).set x (k : Int) := by rw [backK_succ, hxx]; rfl
      rw [← e] at hs
      have hcf := ho.cells.2.2 x
      have hcc := ho.cells.2.1 x hxn
      have HS := Lib.hid hs; clear hs e hxx
      clear h1
      go_wp2
      go_roundw
      case rel => exact ⟨k + 1, by omega, by go_num, HS.out, hb.setCell (by simp) _⟩
      case measure => simp [intOf]; omega
    · obtain rfl : k = n := by omega
      go_wp2
      go_ret
      have e : backF p = backK p k := by unfold backF; rw [← HL.out]
      rw [← e] at ho
      exact ⟨_, _, rfl, ho, hb⟩

end Go.Proofs.Ytehomfbehhlhmaa
