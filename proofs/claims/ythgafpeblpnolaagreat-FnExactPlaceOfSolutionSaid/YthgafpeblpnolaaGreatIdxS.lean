/-
  The library's search through a slice of solutions.
  No condition but bounds.
-/
import Derived.Test.YthgafpeblpnolaaGreatULSo
import Derived.Test.YthgafpeblpnolaaGreatBase3
namespace Go.Proofs.YthgafpeblpnolaaGreat
set_option maxRecDepth 100000
set_option linter.unusedVariables false
set_option linter.unusedSimpArgs false
open Go.RowKit

/-- what a test of solutions does -/
def TstSo (w : World) (F : FuncId) (lb : Array Value) (p : T2 → Bool) (ts : List T2) : Prop :=
  (∀ (args : Array Value) (w : World), (callFunc F args).run Tryz.prog w = .ok (.enter F args) w) ∧ ∀ i, i < ts.length → ∀ w', Below w.heap.size w w' → ∀ a n c a' n' c', Sol w' a n (ts.getD i t2O).1 a' n' (ts.getD i t2O).2 → Calls Tryz.prog F (#[.agg #[.slice a n c, .slice a' n' c']] ++ lb) w' fun e w'' => e = .returned (.bool (p (ts.getD i t2O))) ∧ Below w'.heap.size w' w''
/-- the first place -/
def IdxSo (p : T2 → Bool) (ts : List T2) (r : Int) : Prop := (∃ k, k < ts.length ∧ r = (k : Int) ∧ p (ts.getD k t2O) = true ∧ ∀ j, j < k → p (ts.getD j t2O) = false) ∨ (r = -1 ∧ ∀ j, j < ts.length → p (ts.getD j t2O) = false)

set_option maxHeartbeats 4000000 in
theorem indexSo_any (F : FuncId) (lb : Array Value) (p : T2 → Bool) (a : Option Addr) (n c : Nat) (ts : List T2) (w : World) (h : SbS w a n ts) (hn : n ≤ 1000000000) (hf : TstSo w F lb p ts) :
    Calls Tryz.prog 48 #[.slice a n c, .func (.func F) #[] lb] w fun e w' => (∃ r, e = .returned (.int .i64 r) ∧ IdxSo p ts r) ∧ Below w.heap.size w w' := by
  have HL := Lib.hid h.len
  have EG := hf.1
  have HF := Lib.hid hf.2
  clear hf
  go_enter Tryz.func48, Tryz.ntmps48
  go_wp2
  go_loopw [5, 8] (fun _ i wr => ∃ k : Nat, k ≤ n ∧ i = .int .i64 k ∧ Below w.heap.size w wr ∧ Hid (∀ j, j < k → p (ts.getD j t2O) = false)) (fun _ i _ => n - (intOf i).toNat)
  case atStart => exact ⟨0, Nat.zero_le _, rfl, Below.refl _ _, Lib.hid fun j hj => absurd hj (by omega)⟩
  case round =>
    obtain ⟨k, hk, rfl, hq, HK⟩ := hrel
    by_cases hlt : k < n
    · obtain ⟨b, va, vn, vc, va', vn', vc', rfl, lb0, ck, ck', tk, lk, lk'⟩ := (h.below hq).2 k hlt
      have i1 : (0 : Int) ≤ (k : Int) := by omega
      have i2 : (k : Int) < (n : Int) := by omega
      obtain ⟨B, HB⟩ : ∃ B, Hid (p (ts.getD k t2O) = B) := ⟨_, rfl⟩
      have HC := Lib.hid (HF.out k (by have := HL.out; omega) wr hq va vn vc va' vn' vc' tk)
      cases B with
      | true =>
        go_wp2_with fail
        refine HC.out.mono ?_
        rintro e w3 ⟨rfl, hb3⟩
        rw [HB.out]
        go_wp2
        go_ret
        exact ⟨⟨_, rfl, .inl ⟨k, by have := HL.out; omega, rfl, HB.out, HK.out⟩⟩, below_th hq hb3⟩
      | false =>
        go_wp2_with fail
        refine HC.out.mono ?_
        rintro e w3 ⟨rfl, hb3⟩
        rw [HB.out]
        go_wp2
        go_roundw
        case rel => exact ⟨k + 1, by omega, by go_num, below_th hq hb3, Lib.hid fun j hj => by
          by_cases e : j = k
          · subst e; exact HB.out
          · exact HK.out j (by omega)⟩
        case measure => simp [intOf]; omega
    · obtain rfl : n = k := by omega
      go_wp2
      go_ret
      exact ⟨⟨_, rfl, .inr ⟨rfl, fun j hj => HK.out j (by have := HL.out; omega)⟩⟩, hq⟩
end Go.Proofs.YthgafpeblpnolaaGreat
