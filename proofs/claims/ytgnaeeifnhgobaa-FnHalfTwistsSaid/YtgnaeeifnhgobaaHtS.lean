/-
  The reference's half twist.
  No condition but bounds.
-/
import Derived.Test.YtgnaeeifnhgobaaHtI
namespace Go.Proofs.Ytgnaeeifnhgobaa
set_option maxRecDepth 100000
set_option linter.unusedVariables false
set_option linter.unusedSimpArgs false
open Go.RowKit

/-- from i downward, so many -/
def dwn (i m : Nat) : List Int := (List.range m).map fun t => ((i - t : Nat) : Int)
theorem dwn_succ (i m : Nat) : dwn i (m + 1) = dwn i m ++ [((i - m : Nat) : Int)] := by simp [dwn, List.range_succ]
theorem dwn_len (i m : Nat) : (dwn i m).length = m := by simp [dwn]
theorem flat_range {β : Type} (G : Nat → List β) (j : Nat) : (List.range (j + 1)).flatMap G = (List.range j).flatMap G ++ G j := by simp [List.range_succ, List.flatMap_append]
theorem htW_succ {i : Nat} (h : 1 ≤ i) : htW (i + 1) = htW i ++ dwn i i := by
  obtain ⟨j, rfl⟩ : ∃ j, i = j + 1 := ⟨i - 1, by omega⟩
  exact flat_range (fun i => (List.range (i + 1)).map fun k => ((i + 1 - k : Nat) : Int)) j

set_option maxHeartbeats 2000000 in
theorem spec_Ht_ok (n : Nat) (w : World) (h1 : 2 ≤ n) (h2 : n ≤ 6) :
    Calls Try.prog 25 #[.int .i64 n] w (RetB w n (htW n) 0) := by
  have k1 : decide ((2 : Int) ≤ n) = true := by simp; omega
  have k2 : decide ((n : Int) ≤ 6) = true := by simp; omega
  have HB : Hid (∀ i, i ≤ 6 → (htW i).length ≤ 15) := Lib.hid fun i hi => by
    have := htW_len ⟨i, by omega⟩
    have := htW_bd ⟨i, by omega⟩
    simp only at *
    omega
  go_enter Try.func25, Try.ntmps25
  go_wp2_with (go_at_call 55; refine (l01In_any _ _ _ _).mono ?_; rintro e w' ⟨rfl, rfl⟩)
  go_loopw [5, 6] (fun i' _ wr => ∃ (i : Nat) (a : Option Addr) (m c : Nat), 1 ≤ i ∧ i ≤ n ∧ i' = .int .i64 i ∧ Loc wr w.heap.size #[.int .i64 0, .slice none 0 0] 26 ∧ Loc wr (w.heap.size + 1) #[.int .i64 n, .slice a m c] 26 ∧ Own wr (w.heap.size + 2) a m c (htW i) ∧ Below w.heap.size w wr ∧ w.heap.size + 2 ≤ wr.heap.size) (fun i' _ _ => n - (intOf i').toNat)
  case atStart => exact ⟨1, none, 0, 0, Nat.le_refl _, by omega, rfl, (Loc.new _ rfl _ _).alloc _, Loc.new _ (by simp) _ _, Own.nil _ _, (((Below.refl _ _).alloc (Nat.le_refl _) _).alloc (by simp) _), by simp⟩
  case round =>
    obtain ⟨i, a, m, c, hi0, hi, rfl, hr, hb, ho, hbl, hsz⟩ := hrel
    by_cases hlt : i < n
    · go_wp2
      go_loopw [6] (fun k' wr => ∃ (t : Nat) (a : Option Addr) (m c : Nat), t ≤ i ∧ k' = .int .i64 ((i : Int) - t) ∧ Loc wr w.heap.size #[.int .i64 0, .slice none 0 0] 26 ∧ Loc wr (w.heap.size + 1) #[.int .i64 n, .slice a m c] 26 ∧ Own wr (w.heap.size + 2) a m c (htW i ++ dwn i t) ∧ Below w.heap.size w wr ∧ w.heap.size + 2 ≤ wr.heap.size) (fun k' _ => (intOf k').toNat)
      case atStart => exact ⟨0, a, m, c, by omega, by simp, hr, hb, by simpa [dwn] using ho, hbl, hsz⟩
      case round =>
        clear hr hb ho hbl hsz
        obtain ⟨t, a, m, c, ht, rfl, hr, hb, ho, hbl, hsz⟩ := hrel
        have hc := hb.two
        have hn : m + 1 ≤ 1000000000000 := by
          have x1 := ho.len
          have x2 := HB.out i (by omega)
          rw [List.length_append, dwn_len] at x1
          omega
        by_cases hkp : t < i
        · have i1 : (1 : Int) ≤ (i : Int) - (t : Int) := by omega
          have hw1 : IntKind.i64.wrap ((i : Int) - (t : Int) - 1) = (i : Int) - ((t + 1 : Nat) : Int) := (IntWalk.i64_in _ (by omega)).trans (by omega)
          have HD : Hid (htW i ++ dwn i (t + 1) = htW i ++ dwn i t ++ [(i : Int) - (t : Int)]) := Lib.hid (by rw [dwn_succ, List.append_assoc]; congr 3; omega)
          go_wp2_with (at_builtin; refine app1 rfl rfl ho rfl rfl hn (by omega) ?_; intro g' c' w' hO' hg' hs' hb'; have hB2 := hb.below hb' (by omega); have hR2 := hr.below hb' (by omega); have hc2 := hB2.two; clear hg')
          go_roundw
          case rel =>
            refine ⟨t + 1, _, _, _, by omega, by first | rfl | simp, hR2.setne (by simp) _, hB2.set 1 _, ?_, ((hbl.trans (hb'.mono (by omega))).setCell (by simp) _), by rw [size_set]; omega⟩
            rw [HD.out]
            exact hO'.setlo (by simp) _
          case measure => simp [intOf]; omega
        · obtain rfl : i = t := by omega
          have i1 : ¬ (1 : Int) ≤ (i : Int) - (i : Int) := by omega
          have HD := Lib.hid (htW_succ hi0)
          go_wp2
          go_roundw
          case rel => exact ⟨i + 1, _, _, _, by omega, by omega, by go_num, hr, hb, by rw [HD.out]; exact ho, hbl, hsz⟩
          case measure => simp [intOf]; omega
    · obtain rfl : n = i := by omega
      have hc := hb.two
      have hd := hr.two
      go_wp2
      refine bodyPost_ret (v := .tuple #[bAgg n a m c, .int .i64 0]) (by simp [results, Try.results25, go_sem, hc, hd]) rfl ⟨a, m, c, rfl, ?_, ?_⟩
      · exact ((ho.setlo (by simp <;> omega) _).setlo (by simp <;> omega) _).mono (by simp <;> omega)
      · exact (hbl.setCell (by simp) _).setCell (by simp) _
theorem spec_Ht_no (p : Int) (w : World) (h : ¬ (2 ≤ p ∧ p ≤ 6)) :
    Calls Try.prog 25 #[.int .i64 p] w (RetB w 0 [] 2) := by
  have k1 : (decide (2 ≤ p) && decide (p ≤ 6)) = false := by simp; omega
  go_enter Try.func25, Try.ntmps25
  go_wp2_with (go_at_call 55; refine (l01In_any _ _ _ _).mono ?_; rintro e w' ⟨rfl, rfl⟩; rw [k1])
  refine bodyPost_ret (v := .tuple #[bAgg 0 none 0 0, .int .i64 2]) (by simp [results, Try.results25, go_sem]) rfl ⟨none, 0, 0, rfl, Own.nil _ _, ?_⟩
  exact (Below.refl _ _).alloc (Nat.le_refl _) _
theorem impl_Ht_no (p : Int) (w : World) (h : ¬ (2 ≤ p ∧ p ≤ 6)) :
    Calls Try.prog 24 #[.int .i64 p] w (RetB w 0 [] 2) := by
  have k1 : (decide (2 ≤ p) && decide (p ≤ 6)) = false := by simp; omega
  go_enter Try.func24, Try.ntmps24
  go_wp2_with (go_at_call 53; refine (within_any _ _ _ _).mono ?_; rintro e w' ⟨rfl, rfl⟩; rw [k1])
  refine bodyPost_ret (v := .tuple #[bAgg 0 none 0 0, .int .i64 2]) (by simp [results, Try.results24, go_sem]) rfl ⟨none, 0, 0, rfl, Own.nil _ _, ?_⟩
  exact (Below.refl _ _).alloc (Nat.le_refl _) _

/-- what HalfTwist answers -/
def htF (x : Int) : Int × List Int × Int := if 2 ≤ x ∧ x ≤ 6 then (x, htW x.toNat, 0) else (0, [], 2)
theorem spec_Ht_any (x : Int) (w : World) : Calls Try.prog 25 #[.int .i64 x] w (RetB w (htF x).1 (htF x).2.1 (htF x).2.2) := by
  by_cases h : 2 ≤ x ∧ x ≤ 6
  · have e : htF x = (x, htW x.toNat, 0) := if_pos h
    rw [e]
    obtain ⟨n, rfl⟩ : ∃ n : Nat, x = n := ⟨x.toNat, by omega⟩
    rw [Int.toNat_natCast]
    exact spec_Ht_ok n w (by omega) (by omega)
  · have e : htF x = (0, [], 2) := if_neg h
    rw [e]; exact spec_Ht_no x w h
theorem impl_Ht_any (x : Int) (w : World) : Calls Try.prog 24 #[.int .i64 x] w (RetB w (htF x).1 (htF x).2.1 (htF x).2.2) := by
  by_cases h : 2 ≤ x ∧ x ≤ 6
  · have e : htF x = (x, htW x.toNat, 0) := if_pos h
    rw [e]
    obtain ⟨n, rfl⟩ : ∃ n : Nat, x = n := ⟨x.toNat, by omega⟩
    rw [Int.toNat_natCast]
    exact impl_Ht_ok n w (by omega) (by omega)
  · have e : htF x = (0, [], 2) := if_neg h
    rw [e]; exact impl_Ht_no x w h
end Go.Proofs.Ytgnaeeifnhgobaa
