/-
  What slices.Grow computes at nil, and slices.Concat over slices of numbers.
  No condition but bounds on lengths.
-/
import Derived.Test.YtgnaeeifnhgobaaBase
import Derived.Lib.AppendZeros
namespace Go.Proofs.Ytgnaeeifnhgobaa
set_option maxRecDepth 100000
set_option linter.unusedVariables false
set_option linter.unusedSimpArgs false
open Go.RowKit

set_option maxHeartbeats 400000 in
theorem grow_nil (n : Nat) (w : World) (hm : n ≤ 1000000000000) :
    Calls Try.prog 63 #[.slice none 0 0, .int .i64 n] w fun e w' => ∃ a c, e = .returned (.slice a 0 c) ∧ Own w' w.heap.size a 0 c [] ∧ Below w.heap.size w w' := by
  obtain ⟨i0, hi, hz0, hz1, hz2⟩ := info_parts info_int
  by_cases h0 : n = 0
  · subst h0
    go_enter Try.func63, Try.ntmps63
    go_wp2
    go_ret
    exact ⟨none, 0, rfl, Own.nil _ _, Below.refl _ _⟩
  · have hn0 : 0 < n := by omega
    have hrun : ∀ ty, (Builtin.append_ #[24, 3] ty #[.slice none 0 0, .int .i64 n]).run Try.prog w = _ := fun ty => Lib.run_append_nil_zeros (P := Try.prog) w 24 3 ty 2 i0 (.int .i64 0) .i64 .i64 und_ints Try.underlying3 hi hz0 n hn0 (by omega) (by omega) (by rw [hz2]; omega)
    have HR := Lib.hid hrun; clear hrun
    go_enter Try.func63, Try.ntmps63
    go_wp2_with (at_builtin; refine Lib.wpList_append_run _ rfl _ _ _ _ rfl _ _ rfl rfl _ _ (HR.out _) ?_)
    go_ret
    have hge := grownCap_ge w n 0 2
    have hle := grownCap_le_maxLen w n 0 2 (by unfold maxLen; omega)
    refine ⟨_, _, rfl, Own.mk (cur := Builtin.zeroCells (Value.int .i64 0).cells n ++ Builtin.zeroCells (Value.int .i64 0).cells (grownCap w n 0 2 - n)) rfl (Nat.le_refl _) (Loc.new w.drew rfl _ _) (Nat.zero_le _) hle ?_ (by simp), ((Below.refl _ _).drew).alloc (by simp) _⟩
    rw [Array.size_append, size_zeroCells, size_zeroCells]
    show n * 1 + (grownCap w n 0 2 - n) * 1 = _
    omega

def flatN (xss : List (List Int)) (k : Nat) : List Int := (xss.take k).flatten
theorem flatN_succ {xss : List (List Int)} {k : Nat} (h : k < xss.length) : flatN xss (k + 1) = flatN xss k ++ xss[k] := by
  simp only [flatN, List.take_succ_eq_append_getElem h, List.flatten_append, List.flatten_cons, List.flatten_nil, List.append_nil]
theorem flatN_all (xss : List (List Int)) (k : Nat) (h : xss.length ≤ k) : flatN xss k = xss.flatten := by simp [flatN, List.take_of_length_le h]
theorem flatN_le {xss : List (List Int)} {k : Nat} : (flatN xss k).length ≤ xss.flatten.length := by
  have : xss.flatten = flatN xss k ++ (xss.drop k).flatten := by simp [flatN, ← List.flatten_append]
  rw [this, List.length_append]; omega

set_option maxHeartbeats 1000000 in
theorem concat_any (a : Option Addr) (n c : Nat) (xss : List (List Int)) (w : World) (h1 : Tbl w a n xss) (hm : n ≤ 9223372036854775807) (hfl : xss.flatten.length ≤ 1000000000) :
    Calls Try.prog 35 #[.slice a n c] w fun e w' => ∃ a' n' c', e = .returned (.slice a' n' c') ∧ Own w' w.heap.size a' n' c' xss.flatten ∧ Below w.heap.size w w' := by
  have hl := h1.len
  have HL := Lib.hid hl; clear hl
  go_enter Try.func35, Try.ntmps35
  go_wp2
  go_loop [3, 11] (fun z i => ∃ k : Nat, k ≤ n ∧ i = .int .i64 k ∧ z = .int .i64 ((flatN xss k).length : Nat)) (fun _ i => n - (intOf i).toNat)
  case atStart => exact ⟨0, Nat.zero_le _, rfl, by simp [flatN]⟩
  case round =>
    obtain ⟨k, hk, rfl, rfl⟩ := hrel
    by_cases hlt : k < n
    · obtain ⟨b, off, ai, ni, ci, rfl, g1, hr, hni⟩ := h1.at k hlt
      have hx : k < xss.length := by have := HL.out; omega
      have hs := congrArg List.length (flatN_succ hx)
      rw [List.length_append, ← Tbl.getD hx, ← hr.len] at hs
      have hle := flatN_le (xss := xss) (k := k + 1)
      have hle2 := flatN_le (xss := xss) (k := k)
      obtain ⟨z, hz⟩ : ∃ z, z = (flatN xss k).length := ⟨_, rfl⟩
      obtain ⟨z', hz'⟩ : ∃ z, z = (flatN xss (k + 1)).length := ⟨_, rfl⟩
      rw [← hz] at hs hle2 ⊢
      rw [← hz'] at hs hle
      have HZ := Lib.hid hz'
      have HS := Lib.hid hs
      have hb1 : z + ni ≤ 1000000000 := by omega
      clear hz hz' hs
      clear h1
      go_wp2
      go_round
      case rel =>
        refine ⟨k + 1, by omega, by go_num, ?_⟩
        rw [← HZ.out, HS.out]; go_num
      case measure => simp [intOf]; omega
    · obtain rfl : k = n := by omega
      have e : flatN xss k = xss.flatten := flatN_all _ _ (by have := HL.out; omega)
      rw [e]; clear e
      obtain ⟨z, hz⟩ : ∃ z, z = xss.flatten.length := ⟨_, rfl⟩
      rw [← hz] at hfl ⊢
      have HZ := Lib.hid hz; clear hz
      go_wp2_with fail
      refine (grow_nil z _ (by omega)).mono ?_
      rintro e w1 ⟨ag, cg, rfl, ho, hb1⟩
      have hw1 := hb1.size
      go_wp2_with fail
      go_loopw [6, 27] (fun v i wr => ∃ (k' : Nat) (a' : Option Addr) (n' c' : Nat), k' ≤ k ∧ i = .int .i64 k' ∧ v = .slice a' n' c' ∧ Own wr w.heap.size a' n' c' (flatN xss k') ∧ Below w.heap.size w wr) (fun _ i _ => k - (intOf i).toNat)
      case atStart => exact ⟨0, ag, 0, cg, Nat.zero_le _, rfl, rfl, by simpa [flatN] using ho, hb1⟩
      case round =>
        clear ho hb1
        obtain ⟨j, a', n', c', hj, rfl, rfl, ho, hb⟩ := hrel
        have hr := h1.below hb
        by_cases hlt : j < k
        · obtain ⟨b, off, ai, ni, ci, rfl, g1, hri, hni⟩ := hr.at j hlt
          have hx : j < xss.length := by have := HL.out; omega
          have hs := flatN_succ hx
          rw [← Tbl.getD hx] at hs
          have hle := flatN_le (xss := xss) (k := j + 1)
          rw [hs, List.length_append, ← hri.len, ← ho.len] at hle
          have hle2 : n' + ni ≤ 1000000000000 := by have := HZ.out; omega
          have HS := Lib.hid hs
          have hwr := hb.size
          clear hs hle
          go_wp2_with (at_builtin; refine appL rfl rfl ho rfl hri rfl hle2 hwr ?_; intro a2 c2 w2 hO hg hb2)
          go_roundw
          case rel =>
            refine ⟨j + 1, _, _, _, by omega, by go_num, rfl, ?_, hb.trans hb2⟩
            rw [HS.out]; exact hO
          case measure => simp [intOf]; omega
        · obtain rfl : j = k := by omega
          go_wp2
          go_ret
          rw [flatN_all _ _ (by have := HL.out; omega)] at ho
          exact ⟨_, _, _, rfl, ho, hb⟩

end Go.Proofs.Ytgnaeeifnhgobaa
