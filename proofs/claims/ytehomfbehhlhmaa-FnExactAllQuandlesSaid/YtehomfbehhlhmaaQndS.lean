/-
  Is a rack a quandle? what the reference's function answers.
  No condition but bounds.
-/
import Derived.Test.YtehomfbehhlhmaaRkSolL
import Derived.Test.YtehomfbehhlhmaaBase
import Derived.Test.YtehomfbehhlhmaaRackS
namespace Go.Proofs.Ytehomfbehhlhmaa
set_option maxRecDepth 100000
set_option linter.unusedVariables false
set_option linter.unusedSimpArgs false
open Go.RowKit

set_option maxHeartbeats 1000000 in
theorem l03Quandle_any (a : Option Addr) (n c : Nat) (t : List (List Int)) (w : World) (h : Tbl w a n t) (hf : Sq n t) (hn1 : 1 ≤ n) (hn : n ≤ 12) :
    Calls Try.prog 166 #[rAgg a n c] w fun e w' => e = .returned (.bool (qndOk n t)) ∧ Below w.heap.size w w' := by
  have hA := Loc.new w rfl #[.slice a n c] 65
  have hB := below_al (Below.refl w.heap.size w) (.cells #[.slice a n c] 65)
  obtain ⟨bf, of, A, O, C, rfl, gf⟩ := h.grid hf (by omega)
  clear h hf
  go_enter Try.func166, Try.ntmps166
  go_wp2
  generalize w.alloc (.cells #[.slice (some ⟨bf, of, none⟩) n c] 65) = w0 at *
  have lA := hA.one
  go_loop [3] (fun i => ∃ k : Nat, k ≤ n ∧ i = .int .i64 k ∧ Hid (∀ j, j < k → tv t j j = j)) (fun i => n - (intOf i).toNat)
  case atStart => exact ⟨0, Nat.zero_le _, rfl, Lib.hid fun j hj => absurd hj (by omega)⟩
  case round =>
    obtain ⟨k, hk, rfl, hI⟩ := hrel
    by_cases hlt : k < n
    · obtain ⟨r1, k1⟩ := (gf.below hB).look hlt hlt
      have HD : Hid (∀ V, tv t k k = V → (V ≠ k → qndOk n t = false)) := Lib.hid fun V hV h0 => allN_no hlt (decide_eq_false (by rw [hV]; exact h0))
      generalize hV : tv t k k = V at *
      have HV := Lib.hid hV
      clear hV
      by_cases h0 : V = k
      · subst h0
        have hb : (((V : Nat) : Int) != ((V : Nat) : Int)) = false := by simp
        go_wp2
        go_round
        case rel =>
          refine ⟨V + 1, by omega, by go_num, Lib.hid fun j hj => ?_⟩
          by_cases e : j = V
          · subst e; exact HV.out
          · exact hI.out j (by omega)
        case measure => simp [intOf]; omega
      · have hb : (((V : Nat) : Int) != ((k : Nat) : Int)) = true := by simp; omega
        have HDF := Lib.hid (HD.out V rfl h0)
        go_wp2
        go_ret
        exact ⟨ret_bool (by rw [HDF.out]), hB⟩
    · obtain rfl : k = n := by omega
      have HDT : Hid (qndOk k t = true) := Lib.hid (allN_mk fun x hx => decide_eq_true (hI.out x hx))
      go_wp2
      go_ret
      exact ⟨ret_bool (by rw [HDT.out]), hB⟩
end Go.Proofs.Ytehomfbehhlhmaa
