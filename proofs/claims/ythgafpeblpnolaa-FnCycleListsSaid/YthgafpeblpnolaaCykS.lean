/-
  CountCycleTables: what the reference's computes.
  No condition but bounds.
-/
import Derived.Test.YthgafpeblpnolaaTrnS
import Derived.Test.YthgafpeblpnolaaBase2
namespace Go.Proofs.Ythgafpeblpnolaa
set_option maxRecDepth 100000
set_option linter.unusedVariables false
set_option linter.unusedSimpArgs false
open Go.RowKit

set_option maxHeartbeats 4000000 in
theorem l19Cycles_any (n : Nat) (w : World) (h1 : 1 ≤ n) (h4 : n ≤ 4) :
    Calls Try.prog 32 #[.int .i64 n] w fun e w' => ∃ a k c us, e = .returned (.slice a k c) ∧ OwnTT w' w.heap.size a k c us (trnN n) ∧ Below w.heap.size w w' := by
  obtain ⟨hb1, hb2⟩ := prm_bd h1 h4
  have HPP := Lib.hid (prm_isP h1 h4)
  go_enter Try.func32, Try.ntmps32
  go_wp2
  go_loopw [3, 4] (fun s i wr => ∃ (k : Nat) (a : Option Addr) (c : Nat) (vs : List SV), k ≤ n ∧ i = .int .i64 k ∧ s = .slice a k c ∧ OwnT wr w.heap.size a k c vs (List.replicate k []) ∧ Below w.heap.size w wr) (fun _ i _ => n - (intOf i).toNat)
  case atStart => exact ⟨0, _, _, [], Nat.zero_le _, rfl, rfl, OwnT.fresh w rfl, below_al (Below.refl _ _) _⟩
  case round =>
    obtain ⟨k, a, c, vs, hk, rfl, rfl, ho, hq⟩ := hrel
    have hwq := hq.size
    by_cases hlt : k < n
    · have hO0 : Own (wr.alloc (.cells #[] 2)) w.heap.size (some ⟨wr.heap.size, 0, none⟩) 0 0 [] := (Own.fresh wr rfl).mono hwq
      have hT0 := ho.alloc (.cells #[] 2)
      have ha1 : Apart a (some ⟨wr.heap.size, 0, none⟩) := fun g h e => by have := ho.high g h; cases e; omega
      have ha2 : ∀ j, j < k → Apart (some ⟨wr.heap.size, 0, none⟩) (vs.getD j svO).1 := fun j hj g h e => by have := ho.uHi g (.inr ⟨j, hj, e⟩); cases h; omega
      go_wp2_with (at_builtin; refine appT1h rfl rfl hT0 rfl hO0 ha1 ha2 rfl (size_alloc _ _) (by omega) (by simp; omega) ?_; intro g' cc w8 hO hg8 hat8 hb8)
      go_roundw
      case rel => exact ⟨k + 1, _, cc, _, by omega, by go_num, rfl, by rw [List.replicate_succ']; exact hO, (below_al hq _).trans hb8⟩
      case measure => simp [intOf]; omega
    · obtain rfl : n = k := by omega
      go_wp2_with fail
      refine (l01Perms_any n _ (by omega)).mono ?_
      rintro e w2 ⟨pa, P, pc, pvs, rfl, hp, hb2'⟩
      have hB2 := below_th hq hb2'
      have hz2 := hb2'.size
      have HPL := Lib.hid hp.tbl.len
      have hP0 : 0 < P := by have := HPL.out; omega
      have hP24 : P ≤ 24 := by have := HPL.out; omega
      have HPI : Hid (∀ i, i < P → IsP n ((prmL n).getD i [])) := Lib.hid fun i hi => HPP.out i (by have := HPL.out; omega)
      have hpw : P ^ n ≤ 1000000 := by
        have e1 : P ^ n ≤ 24 ^ n := Nat.pow_le_pow_left hP24 n
        have e2 : (24 : Nat) ^ n ≤ 24 ^ 4 := Nat.pow_le_pow_right (by omega) h4
        have e3 : (24 : Nat) ^ 4 ≤ 1000000 := by decide
        omega
      have HPW : Hid (0 + P ^ n ≤ 1000000000) := Lib.hid (by omega)
      clear hpw hb1 hb2
      go_wp2_with fail
      refine (l19Turns_any n w.heap.size P (prmL n) (by omega) (by omega) hP0 (by omega) HPI.out n (List.replicate n []) pa pc pvs a c vs none 0 0 [] [] w2 (hp.mono hwq) (ho.below hb2') (repl_ok n) (by rw [repl_emp]; exact Nat.le_refl _) (OwnTT.nil _ _) (fun g _ h => TTS.nil h) (fun g _ h => TTS.nil h) (by omega) HPW.out).mono ?_
      rintro e w3 ⟨a3, k3, c3, us3, rfl, ht3, hM3, hsub3⟩
      go_wp2
      go_ret
      exact ⟨a3, k3, c3, us3, rfl, ht3, hB2.trans (Marked.lowb hM3 (fun g hg => absurd hg TTS.nil) (by omega))⟩

/-- what CountCycleTables answers -/
def cykF (x : Int) : Int × Int := if 1 ≤ x ∧ x ≤ 4 then (((trnN x.toNat).length : Int), 0) else (0, 2)
end Go.Proofs.Ythgafpeblpnolaa
