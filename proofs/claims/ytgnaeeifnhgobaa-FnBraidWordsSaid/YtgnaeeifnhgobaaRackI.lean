/-
  Permutations and racks: what the program's questions answer.
  No condition but bounds on lengths.
-/
import Derived.Test.YtgnaeeifnhgobaaRackL
import Derived.Test.YtgnaeeifnhgobaaBase
import Derived.Test.YtgnaeeifnhgobaaSolE
namespace Go.Proofs.Ytgnaeeifnhgobaa
set_option maxRecDepth 100000
set_option linter.unusedVariables false
set_option linter.unusedSimpArgs false
open Go.RowKit

/-- no fault and nil, or a fault and a list of three -/
def FltN (ok : Bool) (W : World) (e : Ending) (w' : World) : Prop := ((ok = true ∧ e = .returned (.slice none 0 0)) ∨ (ok = false ∧ ∃ b c, e = .returned (.slice (some ⟨b, 0, none⟩) 3 c))) ∧ Below W.heap.size W w'

set_option maxHeartbeats 2000000 in
theorem isPermuted_any (a : Option Addr) (n c : Nat) (p : List Int) (w : World) (h1 : Row w a n p) (hm : n ≤ 1000000) :
    Calls Try.prog 67 #[.slice a n c] w fun e w' => e = .returned (.bool (permOk p)) ∧ Below w.heap.size w w' := by
  have hl := h1.len
  have HL := Lib.hid hl; clear hl
  go_enter Try.func67, Try.ntmps67
  go_wp2_with (at_make; refine makeBo rfl rfl rfl rfl (by omega) ?_; intro w1 ho hs hb)
  go_loopw [11] (fun i wr => ∃ k : Nat, k ≤ n ∧ i = .int .i64 k ∧ Hid (permTo p k) ∧ OwnBo wr w.heap.size (some ⟨w.heap.size, 0, none⟩) n n (seenL p n k) ∧ Below w.heap.size w wr) (fun i _ => n - (intOf i).toNat)
  case atStart => exact ⟨0, Nat.zero_le _, rfl, Lib.hid ⟨fun i h => absurd h (by omega), fun i j h => absurd h (by omega)⟩, by rw [seenL_zero]; exact ho, hb⟩
  case round =>
    clear ho hb
    obtain ⟨k, hk, rfl, hp, ho, hb⟩ := hrel
    by_cases hlt : k < n
    · have hr := h1.below hb
      obtain ⟨b, off, rfl, g1⟩ := hr.at k hlt
      have hx : k < p.length := by have := HL.out; omega
      have hpk : p.getD k 0 = p[k] := by simp [List.getD_eq_getElem?_getD, List.getElem?_eq_getElem hx]
      have wn : IntKind.i64.wrap ((n : Int) - 1) = (n : Int) - 1 := IntWalk.i64_in _ (by omega)
      cases hv : rngB 0 ((n : Int) - 1) (p.getD k 0) with
      | false =>
        have HC := Lib.hid (fun w => within_b (p.getD k 0) 0 ((n : Int) - 1) false hv w)
        have hno : permOk p = false := permOk_out hx (by have h := rngB_f hv; have := HL.out; omega)
        have HN := Lib.hid hno
        clear hv hno hpk
        generalize p.getD k 0 = V at *
        go_wp2_with fail
        refine (HC.out _).mono ?_
        rintro e w2 ⟨rfl, rfl⟩
        go_wp2
        go_ret
        exact ⟨ret_bool HN.out.symm, hb⟩
      | true =>
        have HC := Lib.hid (fun w => within_b (p.getD k 0) 0 ((n : Int) - 1) true hv w)
        have hin : 0 ≤ p.getD k 0 ∧ p.getD k 0 < p.length := by have h := rngB_t hv; have := HL.out; omega
        obtain ⟨X, hX⟩ : ∃ X : Nat, p.getD k 0 = X := ⟨(p.getD k 0).toNat, by omega⟩
        have hXn : X < n := by have := HL.out; omega
        obtain ⟨_, hc, hf⟩ := ho.cells
        have hc1 := hc X hXn
        have hf1 := hf X
        rw [seenL_get p n k X hXn] at hc1
        have HIN := Lib.hid hin
        rw [hX] at g1 HC
        clear hc hf hv hin
        cases hs : (p.take k).contains (X : Int) with
        | true =>
          rw [hs] at hc1
          obtain ⟨i, hi, e⟩ := seen_mem hs (by omega)
          have HN : Hid (permOk p = false) := Lib.hid (permOk_twice hx hi (by rw [e, hX]))
          clear hs e hX hpk
          go_wp2_with fail
          refine (HC.out _).mono ?_
          rintro e w2 ⟨rfl, rfl⟩
          go_wp2
          go_ret
          exact ⟨ret_bool HN.out.symm, hb⟩
        | false =>
          rw [hs] at hc1
          have HT : Hid (permTo p (k + 1)) := Lib.hid (permTo_succ hp.out HIN.out (by rw [hX]; exact not_seen hs (by omega)))
          have HSE : Hid ((seenL p n k).set X true = seenL p n (k + 1)) := Lib.hid (seenL_succ p n k X hx hXn (by rw [← hpk, hX]))
          clear hs hX hpk
          go_wp2_with fail
          refine (HC.out _).mono ?_
          rintro e w2 ⟨rfl, rfl⟩
          go_wp2
          go_roundw
          case rel => exact ⟨k + 1, by omega, by go_num, HT, by rw [← HSE.out]; exact ho.set X true, hb.setCell (by simp) _⟩
          case measure => simp [intOf]; omega
    · obtain rfl : k = n := by omega
      have HP : Hid (permOk p = true) := Lib.hid (permTo_ok (by rw [← HL.out]; exact hp.out))
      go_wp2
      go_ret
      exact ⟨ret_bool HP.out.symm, hb⟩

theorem isRk_no {t : List (List Int)} (h : isTab t = false) : isRk t = false := by unfold isRk; rw [h]; rfl

end Go.Proofs.Ytgnaeeifnhgobaa
