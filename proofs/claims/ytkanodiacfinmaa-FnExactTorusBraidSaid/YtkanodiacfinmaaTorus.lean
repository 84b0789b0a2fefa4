/-
  TorusBraid: what the program's and the reference's compute.
  No condition.
-/
import Derived.Test.YtkanodiacfinmaaBraidH
import Derived.Test.YtkanodiacfinmaaOpen
namespace Go.Proofs.Ytkanodiacfinmaa
open Go.RowKit

def seqI (m : Nat) : List Int := (List.range m).map fun j : Nat => (j : Int) + 1
theorem seqI_length (m : Nat) : (seqI m).length = m := by simp [seqI]
theorem seqI_succ (m : Nat) : seqI (m + 1) = seqI m ++ [(m : Int) + 1] := by simp [seqI, List.range_succ]
def torW (p i : Nat) : List Int := (List.replicate i (seqI (p - 1))).flatten
theorem torW_succ (p i : Nat) : torW p (i + 1) = torW p i ++ seqI (p - 1) := by simp [torW, List.replicate_succ']
theorem torW_length (p i : Nat) : (torW p i).length = i * (p - 1) := by simp [torW, seqI_length]

/-- a braid and a code handed back in new memory -/
def RetB (w : World) (s : Int) (xs : List Int) (code : Int) (e : Ending) (w' : World) : Prop :=
  ∃ a n c, e = .returned (.tuple #[bAgg s a n c, .int .i64 code]) ∧ Own w' w.heap.size a n c xs ∧ Below w.heap.size w w'

theorem tor_bound {p q i : Nat} (h2 : p ≤ 6) (h3 : q ≤ 30) (hi : i ≤ q) : i * (p - 1) ≤ 150 := by
  have : i * (p - 1) ≤ 30 * 5 := Nat.mul_le_mul (by omega) (by omega)
  omega

set_option maxHeartbeats 1000000 in
theorem spec_Torus_ok (p q : Nat) (w : World) (h1 : 2 ≤ p) (h2 : p ≤ 6) (h3 : q ≤ 30) (h4 : ((p : Int) - 1) * q ≤ 30) :
    Calls Try.prog 10 #[.int .i64 p, .int .i64 q] w (RetB w p (torW p q) 0) := by
  have k5 : 0 ≤ ((p : Int) - 1) * q := Int.mul_nonneg (by omega) (by omega)
  have k1 : decide ((2 : Int) ≤ p) = true := by simp; omega
  have k2 : decide ((p : Int) ≤ 6) = true := by simp; omega
  have k4 : decide ((q : Int) ≤ 30) = true := by simp; omega
  go_enter Try.func10, Try.ntmps10
  go_wp2_with (go_at_call 34; refine (l01In_any _ _ _ _).mono ?_; rintro e w' ⟨rfl, rfl⟩)
  go_loopw [1] (fun q' wr => ∃ (i : Nat) (a : Option Addr) (n c : Nat), i ≤ q ∧ q' = .int .i64 ((q : Int) - i) ∧ Loc wr w.heap.size #[.int .i64 0, .slice none 0 0] 24 ∧ Loc wr (w.heap.size + 1) #[.int .i64 p, .slice a n c] 24 ∧ Own wr (w.heap.size + 2) a n c (torW p i) ∧ Below w.heap.size w wr ∧ w.heap.size + 2 ≤ wr.heap.size) (fun q' _ => (intOf q').toNat)
  case atStart => exact ⟨0, none, 0, 0, Nat.zero_le _, by simp, (Loc.new _ rfl _ _).alloc _, Loc.new _ (by simp) _ _, Own.nil _ _, (((Below.refl _ _).alloc (Nat.le_refl _) _).alloc (by simp) _), by simp⟩
  case round =>
    obtain ⟨i, a, n, c, hi, rfl, hr, hb, ho, hbl, hsz⟩ := hrel
    by_cases hlt : i < q
    · go_wp2
      obtain ⟨wo, hwo⟩ : ∃ wo : World, wo = wr := ⟨_, rfl⟩
      subst hwo
      go_loopw [7] (fun k' wr => ∃ (k : Nat) (a : Option Addr) (n c : Nat), 1 ≤ k ∧ k ≤ p ∧ k' = .int .i64 k ∧ Loc wr w.heap.size #[.int .i64 0, .slice none 0 0] 24 ∧ Loc wr (w.heap.size + 1) #[.int .i64 p, .slice a n c] 24 ∧ Own wr (w.heap.size + 2) a n c (torW p i ++ seqI (k - 1)) ∧ Below w.heap.size w wr ∧ w.heap.size + 2 ≤ wr.heap.size) (fun k' _ => p - (intOf k').toNat)
      case atStart => exact ⟨1, a, n, c, by omega, by omega, rfl, hr, hb, by simpa [seqI] using ho, hbl, hsz⟩
      case round =>
        clear hr hb ho hbl hsz
        obtain ⟨k, a, n, c, hk1, hk2, rfl, hr, hb, ho, hbl, hsz⟩ := hrel
        have hc := hb.two
        have hn : n + 1 ≤ 1000000000000 := by
          have := ho.len
          simp [torW_length, seqI_length] at this
          have := tor_bound h2 h3 (Nat.le_of_lt hlt)
          omega
        by_cases hkp : k < p
        · go_wp2_with (at_builtin; refine app1 rfl rfl ho rfl rfl hn (by omega) ?_; intro g' c' w' hO' hg' hs' hb'; have hB2 := hb.below hb' (by omega); have hR2 := hr.below hb' (by omega); have hc2 := hB2.two; clear hg')
          go_roundw
          case rel =>
            refine ⟨k + 1, _, _, _, by omega, by omega, by go_num, hR2.setne (by simp) _, hB2.set 1 _, ?_, ((hbl.trans (hb'.mono (by omega))).setCell (by simp) _), by rw [size_set]; omega⟩
            obtain ⟨k, rfl⟩ : ∃ j, k = j + 1 := ⟨k - 1, by omega⟩
            have e : torW p i ++ seqI (k + 1 + 1 - 1) = torW p i ++ seqI (k + 1 - 1) ++ [((k + 1 : Nat) : Int)] := by simp [seqI_succ]
            rw [e]
            exact hO'.setlo (by simp) _
          case measure => simp [intOf]; omega
        · obtain rfl : k = p := by omega
          go_wp2
          go_roundw
          case rel =>
            refine ⟨i + 1, _, _, _, by omega, by go_num, hr, hb, ?_, hbl, hsz⟩
            rw [torW_succ]; exact ho
          case measure => simp [intOf]; omega
    · obtain rfl : i = q := by omega
      have hc := hb.two
      have hd := hr.two
      go_wp2
      refine bodyPost_ret (v := .tuple #[bAgg p a n c, .int .i64 0]) (by simp [results, Try.results10, go_sem, hc, hd]) rfl ⟨a, n, c, rfl, ?_, ?_⟩
      · exact ((ho.setlo (by simp <;> omega) _).setlo (by simp <;> omega) _).mono (by simp <;> omega)
      · exact (hbl.setCell (by simp) _).setCell (by simp) _

set_option maxHeartbeats 1000000 in
theorem impl_Torus_ok (p q : Nat) (w : World) (h1 : 2 ≤ p) (h2 : p ≤ 6) (h3 : q ≤ 30) (h4 : (q : Int) * ((p : Int) - 1) ≤ 30) :
    Calls Try.prog 11 #[.int .i64 p, .int .i64 q] w (RetB w p (torW p q) 0) := by
  have k5 : 0 ≤ (q : Int) * ((p : Int) - 1) := Int.mul_nonneg (by omega) (by omega)
  have k1 : decide ((2 : Int) ≤ p) = true := by simp; omega
  have k2 : decide ((p : Int) ≤ 6) = true := by simp; omega
  have k4 : decide ((q : Int) ≤ 30) = true := by simp; omega
  go_enter Try.func11, Try.ntmps11
  go_wp2_with (go_at_call 35; refine (within_any _ _ _ _).mono ?_; rintro e w' ⟨rfl, rfl⟩)
  go_loopw [26] (fun q' wr => ∃ (i : Nat) (a : Option Addr) (n c : Nat), i ≤ q ∧ q' = .int .i64 i ∧ Loc wr w.heap.size #[.int .i64 0, .slice none 0 0] 24 ∧ Loc wr (w.heap.size + 1) #[.int .i64 p, .slice a n c] 24 ∧ Own wr (w.heap.size + 2) a n c (torW p i) ∧ Below w.heap.size w wr ∧ w.heap.size + 2 ≤ wr.heap.size) (fun q' _ => q - (intOf q').toNat)
  case atStart => exact ⟨0, none, 0, 0, Nat.zero_le _, by simp, (Loc.new _ rfl _ _).alloc _, Loc.new _ (by simp) _ _, Own.nil _ _, (((Below.refl _ _).alloc (Nat.le_refl _) _).alloc (by simp) _), by simp⟩
  case round =>
    obtain ⟨i, a, n, c, hi, rfl, hr, hb, ho, hbl, hsz⟩ := hrel
    by_cases hlt : i < q
    · go_wp2
      obtain ⟨wo, hwo⟩ : ∃ wo : World, wo = wr := ⟨_, rfl⟩
      subst hwo
      go_loopw [7] (fun k' wr => ∃ (k : Nat) (a : Option Addr) (n c : Nat), 1 ≤ k ∧ k ≤ p ∧ k' = .int .i64 k ∧ Loc wr w.heap.size #[.int .i64 0, .slice none 0 0] 24 ∧ Loc wr (w.heap.size + 1) #[.int .i64 p, .slice a n c] 24 ∧ Own wr (w.heap.size + 2) a n c (torW p i ++ seqI (k - 1)) ∧ Below w.heap.size w wr ∧ w.heap.size + 2 ≤ wr.heap.size) (fun k' _ => p - (intOf k').toNat)
      case atStart => exact ⟨1, a, n, c, by omega, by omega, rfl, hr, hb, by simpa [seqI] using ho, hbl, hsz⟩
      case round =>
        clear hr hb ho hbl hsz
        obtain ⟨k, a, n, c, hk1, hk2, rfl, hr, hb, ho, hbl, hsz⟩ := hrel
        have hc := hb.two
        have hn : n + 1 ≤ 1000000000000 := by
          have := ho.len
          simp [torW_length, seqI_length] at this
          have := tor_bound h2 h3 (Nat.le_of_lt hlt)
          omega
        by_cases hkp : k < p
        · go_wp2_with (at_builtin; refine app1 rfl rfl ho rfl rfl hn (by omega) ?_; intro g' c' w' hO' hg' hs' hb'; have hB2 := hb.below hb' (by omega); have hR2 := hr.below hb' (by omega); have hc2 := hB2.two; clear hg')
          go_roundw
          case rel =>
            refine ⟨k + 1, _, _, _, by omega, by omega, by go_num, hR2.setne (by simp) _, hB2.set 1 _, ?_, ((hbl.trans (hb'.mono (by omega))).setCell (by simp) _), by rw [size_set]; omega⟩
            obtain ⟨k, rfl⟩ : ∃ j, k = j + 1 := ⟨k - 1, by omega⟩
            have e : torW p i ++ seqI (k + 1 + 1 - 1) = torW p i ++ seqI (k + 1 - 1) ++ [((k + 1 : Nat) : Int)] := by simp [seqI_succ]
            rw [e]
            exact hO'.setlo (by simp) _
          case measure => simp [intOf]; omega
        · obtain rfl : k = p := by omega
          go_wp2
          go_roundw
          case rel =>
            refine ⟨i + 1, _, _, _, by omega, by go_num, hr, hb, ?_, hbl, hsz⟩
            rw [torW_succ]; exact ho
          case measure => simp [intOf]; omega
    · obtain rfl : i = q := by omega
      have hc := hb.two
      have hd := hr.two
      go_wp2
      refine bodyPost_ret (v := .tuple #[bAgg p a n c, .int .i64 0]) (by simp [results, Try.results11, go_sem, hc, hd]) rfl ⟨a, n, c, rfl, ?_, ?_⟩
      · exact ((ho.setlo (by simp <;> omega) _).setlo (by simp <;> omega) _).mono (by simp <;> omega)
      · exact (hbl.setCell (by simp) _).setCell (by simp) _

set_option maxHeartbeats 400000 in
theorem spec_Torus_range (p q : Int) (w : World) (h : ¬ ((2 ≤ p ∧ p ≤ 6) ∧ (0 ≤ q ∧ q ≤ 30))) :
    Calls Try.prog 10 #[.int .i64 p, .int .i64 q] w (RetB w 0 [] 2) := by
  by_cases h1 : 2 ≤ p ∧ p ≤ 6
  · have k1 : decide (2 ≤ p) = true := by simpa using h1.1
    have k2 : decide (p ≤ 6) = true := by simpa using h1.2
    by_cases h2 : 0 ≤ q
    · have k3 : decide (0 ≤ q) = true := by simpa using h2
      have k4 : decide (q ≤ 30) = false := by simp; omega
      go_enter Try.func10, Try.ntmps10
      go_wp2_with (go_at_call 34; refine (l01In_any _ _ _ _).mono ?_; rintro e w' ⟨rfl, rfl⟩)
      refine bodyPost_ret (v := .tuple #[bAgg 0 none 0 0, .int .i64 2]) (by simp [results, Try.results10, go_sem]) rfl ⟨none, 0, 0, rfl, Own.nil _ _, ?_⟩
      exact (Below.refl _ _).alloc (Nat.le_refl _) _
    · have k3 : decide (0 ≤ q) = false := by simp; omega
      go_enter Try.func10, Try.ntmps10
      go_wp2_with (go_at_call 34; refine (l01In_any _ _ _ _).mono ?_; rintro e w' ⟨rfl, rfl⟩)
      refine bodyPost_ret (v := .tuple #[bAgg 0 none 0 0, .int .i64 2]) (by simp [results, Try.results10, go_sem]) rfl ⟨none, 0, 0, rfl, Own.nil _ _, ?_⟩
      exact (Below.refl _ _).alloc (Nat.le_refl _) _
  · have k1 : (decide (2 ≤ p) && decide (p ≤ 6)) = false := by simp; omega
    go_enter Try.func10, Try.ntmps10
    go_wp2_with (go_at_call 34; refine (l01In_any _ _ _ _).mono ?_; rintro e w' ⟨rfl, rfl⟩; rw [k1])
    refine bodyPost_ret (v := .tuple #[bAgg 0 none 0 0, .int .i64 2]) (by simp [results, Try.results10, go_sem]) rfl ⟨none, 0, 0, rfl, Own.nil _ _, ?_⟩
    exact (Below.refl _ _).alloc (Nat.le_refl _) _

set_option maxHeartbeats 400000 in
theorem spec_Torus_limit (p q : Int) (w : World) (h1 : 2 ≤ p) (h2 : p ≤ 6) (h3 : 0 ≤ q) (h4 : q ≤ 30) (h5 : 30 < (p - 1) * q) (h6 : (p - 1) * q ≤ 200) :
    Calls Try.prog 10 #[.int .i64 p, .int .i64 q] w (RetB w 0 [] 3) := by
  have k1 : decide ((2 : Int) ≤ p) = true := by simpa using h1
  have k2 : decide ((p : Int) ≤ 6) = true := by simpa using h2
  have k3 : decide (0 ≤ (q : Int)) = true := by simpa using h3
  have k4 : decide ((q : Int) ≤ 30) = true := by simpa using h4
  go_enter Try.func10, Try.ntmps10
  go_wp2_with (go_at_call 34; refine (l01In_any _ _ _ _).mono ?_; rintro e w' ⟨rfl, rfl⟩)
  refine bodyPost_ret (v := .tuple #[bAgg 0 none 0 0, .int .i64 3]) (by simp [results, Try.results10, go_sem]) rfl ⟨none, 0, 0, rfl, Own.nil _ _, ?_⟩
  exact (Below.refl _ _).alloc (Nat.le_refl _) _

set_option maxHeartbeats 400000 in
theorem impl_Torus_range (p q : Int) (w : World) (h : ¬ ((2 ≤ p ∧ p ≤ 6) ∧ (0 ≤ q ∧ q ≤ 30))) :
    Calls Try.prog 11 #[.int .i64 p, .int .i64 q] w (RetB w 0 [] 2) := by
  by_cases h1 : 2 ≤ p ∧ p ≤ 6
  · have k1 : decide (2 ≤ p) = true := by simpa using h1.1
    have k2 : decide (p ≤ 6) = true := by simpa using h1.2
    by_cases h2 : 0 ≤ q
    · have k3 : decide (0 ≤ q) = true := by simpa using h2
      have k4 : decide (q ≤ 30) = false := by simp; omega
      go_enter Try.func11, Try.ntmps11
      go_wp2_with (go_at_call 35; refine (within_any _ _ _ _).mono ?_; rintro e w' ⟨rfl, rfl⟩)
      refine bodyPost_ret (v := .tuple #[bAgg 0 none 0 0, .int .i64 2]) (by simp [results, Try.results11, go_sem]) rfl ⟨none, 0, 0, rfl, Own.nil _ _, ?_⟩
      exact (Below.refl _ _).alloc (Nat.le_refl _) _
    · have k3 : decide (0 ≤ q) = false := by simp; omega
      go_enter Try.func11, Try.ntmps11
      go_wp2_with (go_at_call 35; refine (within_any _ _ _ _).mono ?_; rintro e w' ⟨rfl, rfl⟩)
      refine bodyPost_ret (v := .tuple #[bAgg 0 none 0 0, .int .i64 2]) (by simp [results, Try.results11, go_sem]) rfl ⟨none, 0, 0, rfl, Own.nil _ _, ?_⟩
      exact (Below.refl _ _).alloc (Nat.le_refl _) _
  · have k1 : (decide (2 ≤ p) && decide (p ≤ 6)) = false := by simp; omega
    go_enter Try.func11, Try.ntmps11
    go_wp2_with (go_at_call 35; refine (within_any _ _ _ _).mono ?_; rintro e w' ⟨rfl, rfl⟩; rw [k1])
    refine bodyPost_ret (v := .tuple #[bAgg 0 none 0 0, .int .i64 2]) (by simp [results, Try.results11, go_sem]) rfl ⟨none, 0, 0, rfl, Own.nil _ _, ?_⟩
    exact (Below.refl _ _).alloc (Nat.le_refl _) _

set_option maxHeartbeats 400000 in
theorem impl_Torus_limit (p q : Int) (w : World) (h1 : 2 ≤ p) (h2 : p ≤ 6) (h3 : 0 ≤ q) (h4 : q ≤ 30) (h5 : 30 < q * (p - 1)) (h6 : q * (p - 1) ≤ 200) :
    Calls Try.prog 11 #[.int .i64 p, .int .i64 q] w (RetB w 0 [] 3) := by
  have k1 : decide ((2 : Int) ≤ p) = true := by simpa using h1
  have k2 : decide ((p : Int) ≤ 6) = true := by simpa using h2
  have k3 : decide (0 ≤ (q : Int)) = true := by simpa using h3
  have k4 : decide ((q : Int) ≤ 30) = true := by simpa using h4
  go_enter Try.func11, Try.ntmps11
  go_wp2_with (go_at_call 35; refine (within_any _ _ _ _).mono ?_; rintro e w' ⟨rfl, rfl⟩)
  refine bodyPost_ret (v := .tuple #[bAgg 0 none 0 0, .int .i64 3]) (by simp [results, Try.results11, go_sem]) rfl ⟨none, 0, 0, rfl, Own.nil _ _, ?_⟩
  exact (Below.refl _ _).alloc (Nat.le_refl _) _

/-- what TorusBraid answers: strands, word, code -/
def torF (p q : Int) : Int × List Int × Int :=
  if (2 ≤ p ∧ p ≤ 6) ∧ (0 ≤ q ∧ q ≤ 30) then (if (p - 1) * q ≤ 30 then (p, torW p.toNat q.toNat, 0) else (0, [], 3)) else (0, [], 2)
theorem torF_len (p q : Int) : (torF p q).2.1.length ≤ 150 := by
  unfold torF
  split
  · split
    · simp only [torW_length]
      exact tor_bound (q := 30) (by omega) (by omega) (by omega)
    · simp
  · simp
theorem spec_Torus_any (p q : Int) (w : World) : Calls Try.prog 10 #[.int .i64 p, .int .i64 q] w (RetB w (torF p q).1 (torF p q).2.1 (torF p q).2.2) := by
  by_cases h : (2 ≤ p ∧ p ≤ 6) ∧ (0 ≤ q ∧ q ≤ 30)
  · by_cases h2 : (p - 1) * q ≤ 30
    · unfold torF; rw [if_pos h, if_pos h2]
      obtain ⟨p', rfl⟩ := Int.eq_ofNat_of_zero_le (show 0 ≤ p by omega)
      obtain ⟨q', rfl⟩ := Int.eq_ofNat_of_zero_le (show 0 ≤ q by omega)
      exact spec_Torus_ok p' q' w (by omega) (by omega) (by omega) h2
    · unfold torF; rw [if_pos h, if_neg h2]
      have h6 : (p - 1) * q ≤ 5 * 30 := Int.mul_le_mul (by omega) (by omega) (by omega) (by omega)
      exact spec_Torus_limit p q w h.1.1 h.1.2 h.2.1 h.2.2 (by omega) (by omega)
  · unfold torF; rw [if_neg h]; exact spec_Torus_range p q w h
theorem impl_Torus_any (p q : Int) (w : World) : Calls Try.prog 11 #[.int .i64 p, .int .i64 q] w (RetB w (torF p q).1 (torF p q).2.1 (torF p q).2.2) := by
  by_cases h : (2 ≤ p ∧ p ≤ 6) ∧ (0 ≤ q ∧ q ≤ 30)
  · have hc : q * (p - 1) = (p - 1) * q := Int.mul_comm _ _
    by_cases h2 : (p - 1) * q ≤ 30
    · unfold torF; rw [if_pos h, if_pos h2]
      obtain ⟨p', rfl⟩ := Int.eq_ofNat_of_zero_le (show 0 ≤ p by omega)
      obtain ⟨q', rfl⟩ := Int.eq_ofNat_of_zero_le (show 0 ≤ q by omega)
      exact impl_Torus_ok p' q' w (by omega) (by omega) (by omega) (by omega)
    · unfold torF; rw [if_pos h, if_neg h2]
      have h6 : (p - 1) * q ≤ 5 * 30 := Int.mul_le_mul (by omega) (by omega) (by omega) (by omega)
      exact impl_Torus_limit p q w h.1.1 h.1.2 h.2.1 h.2.2 (by omega) (by omega)
  · unfold torF; rw [if_neg h]; exact impl_Torus_range p q w h

set_option maxHeartbeats 1000000 in
theorem law_Torus (p : Int) (_ : I64 p) (q : Int) (_ : I64 q) (w : World) : Calls Try.prog 3 #[.int .i64 p, .int .i64 q] w fun e w' => e = .returned (.bool true) ∧ Below w.heap.size w w' := by
  obtain ⟨s, hs⟩ : ∃ s, s = (torF p q).1 := ⟨_, rfl⟩
  obtain ⟨xs, hx⟩ : ∃ xs, xs = (torF p q).2.1 := ⟨_, rfl⟩
  obtain ⟨code, hcd⟩ : ∃ code, code = (torF p q).2.2 := ⟨_, rfl⟩
  have hlen : xs.length ≤ 150 := hx ▸ torF_len p q
  have HS : ∀ w, Calls Try.prog 10 #[.int .i64 p, .int .i64 q] w (RetB w s xs code) := fun w => by subst hs hx hcd; exact spec_Torus_any p q w
  have HI : ∀ w, Calls Try.prog 11 #[.int .i64 p, .int .i64 q] w (RetB w s xs code) := fun w => by subst hs hx hcd; exact impl_Torus_any p q w
  have HS' := Lib.hid HS; have HI' := Lib.hid HI
  clear hs hx hcd HS HI
  have heq : decide (s = s ∧ xs = xs) = true := by simp
  have hne : (code != code) = false := by simp
  go_enter Try.func3, Try.ntmps3
  go_wp2_with fail
  refine (HS'.out _).mono ?_
  rintro e w1 ⟨a1, n1, c1, rfl, ho1, hb1⟩
  go_wp2_with fail
  refine (HI'.out _).mono ?_
  rintro e w2 ⟨a2, n2, c2, rfl, ho2, hb2⟩
  have hB2 := below_alth hb1 hb2
  have ln1 : n1 ≤ 150 := by have := ho1.len; omega
  have ln2 : n2 ≤ 150 := by have := ho2.len; omega
  have hi1 := ho1.hi
  have lo2 : ∀ g, a2 = some ⟨g, 0, none⟩ → w1.heap.size < g := fun g h => by have := ho2.lo g h; rw [size_alloc] at this; omega
  have hi2 := ho2.hi
  have o1 := (ho1.alloc _).below hb2
  have hL1 : Loc w2 w1.heap.size _ _ := (Loc.new _ rfl _ _).below hb2 (by simp)
  have l1 := hL1.two
  have z2 : w1.heap.size < w2.heap.size := hL1.lt
  go_wp2_with fail
  refine (eqBraid_same _ _ _ _ _ _ _ _ _ (ho2.row.alloc _) (o1.row.alloc _) (by omega)).mono ?_
  rintro e w3 ⟨rfl, hb3⟩
  have hB3 := below_alth hB2 hb3
  have hL2 : Loc w3 w2.heap.size _ _ := (Loc.new _ rfl _ _).below hb3 (by simp)
  have hL1 := (hL1.alloc _).below hb3 (by simp <;> omega)
  have l2 := hL2.two
  have l1 := hL1.two
  have o1 := (o1.alloc _).below hb3
  have o2 := (ho2.alloc _).below hb3
  have z3 : w2.heap.size < w3.heap.size := hL2.lt
  go_wp2_with fail
  refine (markBraid_any _ _ _ _ _ _ _ _ o2 (by omega) (by omega)).mono ?_
  rintro e w4 ⟨rfl, o2, hm4⟩
  have hL2 := hL2.marked hm4 (fun h => by have := hi2 _ h; omega)
  have hL1 := hL1.marked hm4 (fun h => by have := lo2 _ h; omega)
  have l2 := hL2.two
  have l1 := hL1.two
  have o1 := o1.marked hm4 (fun g h1 h2 => by have := lo2 _ h2; have := hi1 _ h1; omega)
  have hne1 : ((1 : Int) + (n2 : Int) != 1 + (n2 : Int)) = false := by simp
  go_wp2_with fail
  refine (heldBraid_any _ _ _ _ _ _ o2.row (by omega) (by omega)).mono ?_
  rintro e w5 ⟨rfl, hb5⟩
  have hB4 := Marked.below hB3 hm4 hB3.size (fun k h => by have := lo2 _ h; have := hb1.size; omega)
  have hB5 := below_th hB4 hb5
  go_wp2_with fail
  refine (HI'.out _).mono ?_
  rintro e w6 ⟨a3, n3, c3, rfl, ho3, hb6⟩
  have hB6 := below_th hB5 hb6
  have hL2 := (hL2.below hb5 hL2.lt)
  have hL2 := (hL2.below hb6 hL2.lt)
  have hL1 := (hL1.below hb5 hL1.lt)
  have hL1 := (hL1.below hb6 hL1.lt)
  have l2 := hL2.two
  have l1 := hL1.two
  have o1 := (o1.below hb5).below hb6
  have o2 := (o2.below hb5).below hb6
  have z61 : w1.heap.size < w6.heap.size := hL1.lt
  have z62 : w2.heap.size < w6.heap.size := hL2.lt
  have ln3 : n3 ≤ 150 := by have := ho3.len; omega
  go_wp2_with fail
  refine (eqBraid_same _ _ _ _ _ _ _ _ _ (ho3.row.alloc _) (o1.row.alloc _) (by omega)).mono ?_
  rintro e w7 ⟨rfl, hb7⟩
  have hB7 := below_alth hB6 hb7
  have hL2 := ((hL2.alloc _).below hb7 (by simp <;> omega))
  have l2 := hL2.two
  have o2 := ((o2.alloc _).below hb7)
  go_wp2_with fail
  refine (heldBraid_any _ _ _ _ _ _ o2.row (by omega) (by omega)).mono ?_
  rintro e w8 ⟨rfl, hb8⟩
  go_wp2_with fail
  go_ret
  exact ⟨rfl, below_th hB7 hb8⟩

end Go.Proofs.Ytkanodiacfinmaa
