/-
  The program's iterator over all permutations of few elements.
  No condition.
-/
import Derived.Sort.LoopGhostIn
import Derived.Test.YtehomfbehhlhmaaRangeP
import Derived.Test.YtehomfbehhlhmaaCrkS
namespace Go.Proofs.Ytehomfbehhlhmaa
set_option maxRecDepth 100000
set_option linter.unusedVariables false
set_option linter.unusedSimpArgs false
open Go.RowKit
attribute [local go_sem] Oper.semAt_some

theorem Touch.grownBy {w w' : World} {b : Nat} (h : Touch (fun q => q = b) w w') : w.grownBy w' (some b) :=
  ⟨h.os, h.tape, h.output, by rw [h.size]; exact Nat.le_refl _, fun k hk hne => h.block k (fun e => hne (by rw [e]))⟩

set_option maxHeartbeats 4000000 in
theorem perms1_it (n N Bn : Nat) (w0 : World) (hB : Bn < w0.heap.size) (hc : w0.cell? ⟨Bn, 0, none⟩ = some (.int .i64 N)) (h1 : 1 ≤ N) (h4 : N ≤ 4) :
    ItP Fence.wide n 189 #[.pointer (some ⟨Bn, 0, none⟩)] N (prmL N).length (fun k => (prmL N).getD k []) w0 := by
  intro l J W hW hJ0 hJ1 hY
  have hc1 := (hW.cell (p := ⟨Bn, 0, none⟩) hB).trans hc
  have HM := Lib.hid (prm_bd h1 h4)
  have HZ := Lib.hid (nx_zero h1 h4)
  have HX := Lib.hid (fun k (hk : k < (prmL N).length) => nx_at h1 h4 hk)
  obtain ⟨M, HMM⟩ : ∃ M, Hid ((prmL N).length = M) := ⟨_, rfl⟩
  rw [HMM.out] at hY HM HX
  rw [HMM.out]
  have HY := Lib.hid hY
  have HJ0 := Lib.hid hJ0
  have HJ1 := Lib.hid hJ1
  clear hY hJ0 hJ1 hc
  refine callsIn_of_wp Try.func189 rfl trivial ?_ rfl
  simp only [Try.ntmps189, List.size_toArray, List.length_cons, List.length_nil, Nat.reduceAdd, Nat.reduceSub, Array.replicate_succ, Array.replicate_zero, List.push_toArray, List.append_toArray, List.nil_append, List.cons_append]
  have hdd : ∀ k : Nat, (Fence.wide.depth.isSome = true → 1 ≤ k) := fun k h => by cases h
  gi_wp2_with (refine ⟨trivial, hdd _, ?_⟩; gi_at_call 186; refine (callsIn_wide.2 (identity_any N _ (by omega))).mono ?_; rintro e w1 ⟨a1, c1, rfl, ho1, hb1⟩)
  obtain ⟨b, cur, rfl, hb, hL⟩ : ∃ g cur, a1 = some ⟨g, 0, none⟩ ∧ W.heap.size ≤ g ∧ Loc w1 g cur 2 := by
    rcases ho1.block with ⟨rfl, h, _⟩ | ⟨g, cur, h1, h2, h3, _⟩
    · omega
    · exact ⟨g, cur, h1, h2, h3⟩
  gi_loopg [] M (fun g wr => ∃ (k : Nat), g + k = M ∧ k < M ∧ J b k wr ∧ Own wr W.heap.size (some ⟨b, 0, none⟩) N c1 ((prmL N).getD k []))
  case atStart => exact ⟨0, rfl, by have := HM.out; omega, HJ0.out b w1 hb hL.lt hb1, by rw [HZ.out]; exact ho1⟩
  case round =>
    obtain ⟨k, hgk, hkM, hJ, ho⟩ := hrel
    obtain ⟨fn, tmps, assign, body, hy, hR⟩ := HY.out b c1 k wr hb hkM hJ ho
    have HO := Lib.hid ho
    clear ho hJ
    obtain ⟨p, HP⟩ : ∃ p, Hid ((prmL N).getD k [] = p) := ⟨_, rfl⟩
    gi_wp2
    refine ⟨hdd _, hR.mono ?_⟩
    rintro e w2 ⟨rfl, hJ2, hbb, hsz⟩
    have ho2 : Own w2 W.heap.size (some ⟨b, 0, none⟩) N c1 p := by rw [← HP.out]; exact HO.out.keep fun g hg hlt => by cases hg; exact hbb
    have HNX := Lib.hid (HX.out k hkM)
    rw [HP.out] at HNX
    clear hy hbb
    gi_wp2_with (refine ⟨trivial, hdd _, ?_⟩; gi_at_call 190; refine (callsIn_wide.2 (nextPermutation_any b N c1 W.heap.size p w2 ho2 h1 (by omega))).mono ?_; rintro e w3 (⟨q, hq, rfl, ho3, ht3⟩ | ⟨hq, rfl, ho3, ht3⟩))
    · have hE := HNX.out
      rw [hq] at hE
      have hk1 : k + 1 < M := by
        rcases Nat.lt_or_ge (k + 1) M with h | h
        · exact h
        · rw [if_neg (by omega)] at hE; cases hE
      rw [if_pos hk1] at hE
      have hE2 : q = (prmL N).getD (k + 1) [] := by injection hE
      have HE2 := Lib.hid hE2
      clear hE hE2 hq
      gi_roundg (gk - 1)
      case measure => omega
      case rel => exact ⟨k + 1, by omega, hk1, HJ1.out b (k + 1) w2 w3 hb hJ2 ht3.grownBy, by rw [← HE2.out]; exact ho3⟩
    · have hE := HNX.out
      rw [hq] at hE
      have hk1 : k + 1 = M := by
        rcases Nat.lt_or_ge (k + 1) M with h | h
        · rw [if_pos h] at hE; cases hE
        · omega
      clear hE hq
      refine bodyPost_ret (results_none rfl _ _ _) rfl ?_
      exact ⟨⟨_, rfl⟩, b, hb, by rw [← hk1]; exact HJ1.out b (k + 1) w2 w3 hb hJ2 ht3.grownBy⟩
end Go.Proofs.Ytehomfbehhlhmaa
