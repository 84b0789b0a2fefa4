/-
  What opposites computes.
  No condition but bounds.
-/
import Derived.Test.YtehomfbehhlhmaaBraid
import Derived.Test.YtehomfbehhlhmaaSlices
namespace Go.Proofs.Ytehomfbehhlhmaa
set_option maxRecDepth 100000
set_option linter.unusedVariables false
set_option linter.unusedSimpArgs false
open Go.RowKit

def negL (xs : List Int) : List Int := xs.map fun x => -x
theorem negL_succ {xs : List Int} {k : Nat} (h : k < xs.length) : negL (xs.take (k + 1)) = negL (xs.take k) ++ [-xs[k]] := by
  simp only [negL, List.take_succ_eq_append_getElem h, List.map_append, List.map_cons, List.map_nil]
theorem negL_len (xs : List Int) : (negL xs).length = xs.length := by simp [negL]
theorem neg_step (xs : List Int) (n j : Nat) (hl : n = xs.length) (h : j < n) (hx : j < xs.length) : (negL (xs.take j) ++ List.replicate (n - j) 0).set j (-xs[j]) = negL (xs.take (j + 1)) ++ List.replicate (n - (j + 1)) 0 := by
  have e : (negL (xs.take j)).length = j := by rw [negL_len, List.length_take]; omega
  rw [List.set_append_right _ _ (by omega), e, Nat.sub_self, negL_succ hx, List.append_assoc]
  congr 1
  obtain ⟨m, hm⟩ : ∃ m, n - j = m + 1 := ⟨n - j - 1, by omega⟩
  have hm' : n - (j + 1) = m := by omega
  rw [hm, hm', List.replicate_succ]
  simp

set_option maxHeartbeats 400000 in
theorem opposites_any (a : Option Addr) (n c : Nat) (xs : List Int) (w : World) (h1 : Row w a n xs) (hm : n ≤ 1048576) (hb : ∀ x ∈ xs, -1000 ≤ x ∧ x ≤ 1000) :
    Calls Try.prog 107 #[.slice a n c] w fun e w' => ∃ a' c', e = .returned (.slice a' n c') ∧ Own w' w.heap.size a' n c' (negL xs) ∧ Below w.heap.size w w' := by
  have hl := h1.len
  have HL := Lib.hid hl; clear hl
  have HX := Lib.hid hb; clear hb
  go_enter Try.func107, Try.ntmps107
  go_wp2_with (at_make; refine make1 rfl rfl rfl rfl (by omega) ?_; intro w1 ho hs hb)
  have hw1 := hb.size
  go_loopw [11] (fun i wr => ∃ j : Nat, j ≤ n ∧ i = .int .i64 j ∧ Own wr w.heap.size (some ⟨w.heap.size, 0, none⟩) n n (negL (xs.take j) ++ List.replicate (n - j) 0) ∧ Below w.heap.size w wr) (fun i _ => n - (intOf i).toNat)
  case atStart => exact ⟨0, Nat.zero_le _, rfl, by simpa [negL] using ho, hb⟩
  case round =>
    clear ho hb
    obtain ⟨j, hj, rfl, ho, hb⟩ := hrel
    by_cases hlt : j < n
    · have hr := h1.below hb
      obtain ⟨b, off, rfl, g1⟩ := hr.at j hlt
      obtain ⟨_, hc, hf⟩ := ho.cells
      have hc1 := hc j hlt
      have hf1 := hf j
      have hx : j < xs.length := by have := HL.out; omega
      have hxb := HX.out xs[j] (List.getElem_mem hx)
      clear hc hf hr h1
      go_wp2
      go_roundw
      case rel =>
        refine ⟨j + 1, by omega, by go_num, ?_, hb.setCell (by simp) _⟩
        rw [← neg_step xs n j HL.out hlt hx]
        exact ho.set j _
      case measure => simp [intOf]; omega
    · obtain rfl : j = n := by omega
      go_wp2
      go_ret
      refine ⟨_, _, rfl, ?_, hb⟩
      rw [List.take_of_length_le (by have := HL.out; omega), Nat.sub_self, List.replicate_zero, List.append_nil] at ho
      exact ho

end Go.Proofs.Ytehomfbehhlhmaa
