/-
  The library's search through a slice of racks.
  No condition but bounds.
-/
import Derived.Test.YtehomfbehhlhmaaTabRk
import Derived.Test.YtehomfbehhlhmaaBefS
namespace Go.Proofs.Ytehomfbehhlhmaa
set_option maxRecDepth 100000
set_option linter.unusedVariables false
set_option linter.unusedSimpArgs false
open Go.RowKit

/-- what a test of racks does -/
def TstR (w : World) (F : FuncId) (lb : Array Value) (p : List (List Int) → Bool) (ts : List (List (List Int))) : Prop :=
  (∀ (args : Array Value) (w : World), (callFunc F args).run Try.prog w = .ok (.enter F args) w) ∧ ∀ i, i < ts.length → ∀ w', Below w.heap.size w w' → ∀ va vn vc, Tbl w' va vn (ts.getD i []) → Calls Try.prog F (#[.agg #[.slice va vn vc]] ++ lb) w' fun e w'' => e = .returned (.bool (p (ts.getD i []))) ∧ Below w'.heap.size w' w''
/-- the first place -/
def IdxR (p : List (List Int) → Bool) (ts : List (List (List Int))) (r : Int) : Prop := (∃ k, k < ts.length ∧ r = (k : Int) ∧ p (ts.getD k []) = true ∧ ∀ j, j < k → p (ts.getD j []) = false) ∨ (r = -1 ∧ ∀ j, j < ts.length → p (ts.getD j []) = false)

set_option maxHeartbeats 4000000 in
theorem indexRk_any (F : FuncId) (lb : Array Value) (p : List (List Int) → Bool) (a : Option Addr) (n c : Nat) (ts : List (List (List Int))) (w : World) (h : TbS w a n ts) (hn : n ≤ 1000000000) (hf : TstR w F lb p ts) :
    Calls Try.prog 134 #[.slice a n c, .func (.func F) #[] lb] w fun e w' => (∃ r, e = .returned (.int .i64 r) ∧ IdxR p ts r) ∧ Below w.heap.size w w' := by
  have HL := Lib.hid h.len
  have EG := hf.1
  have HF := Lib.hid hf.2
  clear hf
  go_enter Try.func134, Try.ntmps134
  go_wp2
  go_loopw [5, 8] (fun _ i wr => ∃ k : Nat, k ≤ n ∧ i = .int .i64 k ∧ Below w.heap.size w wr ∧ Hid (∀ j, j < k → p (ts.getD j []) = false)) (fun _ i _ => n - (intOf i).toNat)
  case atStart => exact ⟨0, Nat.zero_le _, rfl, Below.refl _ _, Lib.hid fun j hj => absurd hj (by omega)⟩
  case round =>
    obtain ⟨k, hk, rfl, hq, HK⟩ := hrel
    by_cases hlt : k < n
    · obtain ⟨b, off, va, vn, vc, rfl, ck, tk, lk⟩ := (h.below hq).at k hlt
      have i1 : (0 : Int) ≤ (k : Int) := by omega
      have i2 : (k : Int) < (n : Int) := by omega
      obtain ⟨B, HB⟩ : ∃ B, Hid (p (ts.getD k []) = B) := ⟨_, rfl⟩
      have HC := Lib.hid (HF.out k (by have := HL.out; omega) wr hq va vn vc tk)
      cases B with
      | true =>
        go_wp2_with fail
        refine HC.out.mono ?_
        rintro e w3 ⟨rfl, hb3⟩
        rw [HB.out]
        go_wp2
        go_ret
        exact ⟨⟨_, rfl, .inl ⟨k, by have := HL.out; omega, rfl, HB.out, HK.out⟩⟩, below_th hq hb3⟩
      | false =>
        go_wp2_with fail
        refine HC.out.mono ?_
        rintro e w3 ⟨rfl, hb3⟩
        rw [HB.out]
        go_wp2
        go_roundw
        case rel => exact ⟨k + 1, by omega, by go_num, below_th hq hb3, Lib.hid fun j hj => by
          by_cases e : j = k
          · subst e; exact HB.out
          · exact HK.out j (by omega)⟩
        case measure => simp [intOf]; omega
    · obtain rfl : n = k := by omega
      go_wp2
      go_ret
      exact ⟨⟨_, rfl, .inr ⟨rfl, fun j hj => HK.out j (by have := HL.out; omega)⟩⟩, hq⟩
end Go.Proofs.Ytehomfbehhlhmaa
