/-
  TorusBraid: what the program's and the reference's compute.
  No condition.
-/
import Derived.Test.YtehomfbehhlhmaaBraidH
import Derived.Test.YtehomfbehhlhmaaOpen
namespace Go.Proofs.Ytehomfbehhlhmaa
set_option maxRecDepth 100000
set_option linter.unusedVariables false
set_option linter.unusedSimpArgs false
open Go.RowKit

def seqI (m : Nat) : List Int := (List.range m).map fun j : Nat => (j : Int) + 1
theorem seqI_length (m : Nat) : (seqI m).length = m := by simp [seqI]
theorem seqI_succ (m : Nat) : seqI (m + 1) = seqI m ++ [(m : Int) + 1] := by simp [seqI, List.range_succ]
def torW (p i : Nat) : List Int := (List.replicate i (seqI (p - 1))).flatten
theorem torW_succ (p i : Nat) : torW p (i + 1) = torW p i ++ seqI (p - 1) := by simp [torW, List.replicate_succ']
theorem torW_length (p i : Nat) : (torW p i).length = i * (p - 1) := by simp [torW, seqI_length]

theorem tor_bound {p q i : Nat} (h2 : p ≤ 6) (h3 : q ≤ 30) (hi : i ≤ q) : i * (p - 1) ≤ 150 := by
  have : i * (p - 1) ≤ 30 * 5 := Nat.mul_le_mul (by omega) (by omega)
  omega

set_option maxHeartbeats 1000000 in
theorem spec_Torus_ok (p q : Nat) (w : World) (h1 : 2 ≤ p) (h2 : p ≤ 6) (h3 : q ≤ 30) (h4 : ((p : Int) - 1) * q ≤ 30) :
    Calls Try.prog 22 #[.int .i64 p, .int .i64 q] w (RetB w p (torW p q) 0) := by
  have k5 : 0 ≤ ((p : Int) - 1) * q := Int.mul_nonneg (by omega) (by omega)
  have k1 : decide ((2 : Int) ≤ p) = true := by simp; omega
  have k2 : decide ((p : Int) ≤ 6) = true := by simp; omega
  have k4 : decide ((q : Int) ≤ 30) = true := by simp; omega
  go_enter Try.func22, Try.ntmps22
  go_wp2_with (go_at_call 81; refine (l01In_any _ _ _ _).mono ?_; rintro e w' ⟨rfl, rfl⟩)
  go_loopw [1] (fun q' wr => ∃ (i : Nat) (a : Option Addr) (n c : Nat), i ≤ q ∧ q' = .int .i64 ((q : Int) - i) ∧ Loc wr w.heap.size #[.int .i64 0, .slice none 0 0] 24 ∧ Loc wr (w.heap.size + 1) #[.int .i64 p, .slice a n c] 24 ∧ Own wr (w.heap.size + 2) a n c (torW p i) ∧ Below w.heap.size w wr ∧ w.heap.size + 2 ≤ wr.heap.size) (fun q' _ => (intOf q').toNat)
  case atStart => exact ⟨0, none, 0, 0, Nat.zero_le _, by simp, (Loc.new _ rfl _ _).alloc _, Loc.new _ (by simp) _ _, Own.nil _ _, (((Below.refl _ _).alloc (Nat.le_refl _) _).alloc (by simp) _), by simp⟩
  case round =>
    obtain ⟨i, a, n, c, hi, rfl, hr, hb, ho, hbl, hsz⟩ := hrel
    by_cases hlt : i < q
    · go_wp2
      obtain ⟨wo, hwo⟩ : ∃ wo : World, wo = wr := ⟨_, rfl⟩
      subst hwo
      go_loopw [7] (fun k' wr => ∃ (k : Nat) (a : Option Addr) (n c : Nat), 1 ≤ k ∧ k ≤ p ∧ k' = .int .i64 k ∧ Loc wr w.heap.size #[.int .i64 0, .slice none 0 0] 24 ∧ Loc wr (w.heap.size + 1) #[.int .i64 p, .slice a n c] 24 ∧ Own wr (w.heap.size + 2) a n c (torW p i ++ seqI (k - 1)) ∧ Below w.heap.size w wr ∧ w.heap.size + 2 ≤ wr.heap.size) (fun k' _ => p - (intOf k').toNat)
      case atStart => exact ⟨1, a, n, c, by omega, by omega, rfl, hr, hb, by simpa [seqI] using ho, hbl, hsz⟩
      case round =>
        clear hr hb ho hbl hsz
        obtain ⟨k, a, n, c, hk1, hk2, rfl, hr, hb, ho, hbl, hsz⟩ := hrel
        have hc := hb.two
        have hn : n + 1 ≤ 1000000000000 := by
          have := ho.len
          simp [torW_length, seqI_length] at this
          have := tor_bound h2 h3 (Nat.le_of_lt hlt)
          omega
        by_cases hkp : k < p
        · go_wp2_with (at_builtin; refine app1 rfl rfl ho rfl rfl hn (by omega) ?_; intro g' c' w' hO' hg' hs' hb'; have hB2 := hb.below hb' (by omega); have hR2 := hr.below hb' (by omega); have hc2 := hB2.two; clear hg')
          go_roundw
          case rel =>
            refine ⟨k + 1, _, _, _, by omega, by omega, by go_num, hR2.setne (by simp) _, hB2.set 1 _, ?_, ((hbl.trans (hb'.mono (by omega))).setCell (by simp) _), by rw [size_set]; omega⟩
            obtain ⟨k, rfl⟩ : ∃ j, k = j + 1 := ⟨k - 1, by omega⟩
            have e : torW p i ++ seqI (k + 1 + 1 - 1) = torW p i ++ seqI (k + 1 - 1) ++ [((k + 1 : Nat) : Int)] := by simp [seqI_succ]
            rw [e]
            exact hO'.setlo (by simp) _
          case measure => simp [intOf]; omega
        · obtain rfl : k = p := by omega
          go_wp2
          go_roundw
          case rel =>
            refine ⟨i + 1, _, _, _, by omega, by go_num, hr, hb, ?_, hbl, hsz⟩
            rw [torW_succ]; exact ho
          case measure => simp [intOf]; omega
    · obtain rfl : i = q := by omega
      have hc := hb.two
      have hd := hr.two
      go_wp2
      refine bodyPost_ret (v := .tuple #[bAgg p a n c, .int .i64 0]) (by simp [results, Try.results22, go_sem, hc, hd]) rfl ⟨a, n, c, rfl, ?_, ?_⟩
      · exact ((ho.setlo (by simp <;> omega) _).setlo (by simp <;> omega) _).mono (by simp <;> omega)
      · exact (hbl.setCell (by simp) _).setCell (by simp) _

set_option maxHeartbeats 1000000 in
theorem impl_Torus_ok (p q : Nat) (w : World) (h1 : 2 ≤ p) (h2 : p ≤ 6) (h3 : q ≤ 30) (h4 : (q : Int) * ((p : Int) - 1) ≤ 30) :
    Calls Try.prog 21 #[.int .i64 p, .int .i64 q] w (RetB w p (torW p q) 0) := by
  have k5 : 0 ≤ (q : Int) * ((p : Int) - 1) := Int.mul_nonneg (by omega) (by omega)
  have k1 : decide ((2 : Int) ≤ p) = true := by simp; omega
  have k2 : decide ((p : Int) ≤ 6) = true := by simp; omega
  have k4 : decide ((q : Int) ≤ 30) = true := by simp; omega
  go_enter Try.func21, Try.ntmps21
  go_wp2_with (go_at_call 80; refine (within_any _ _ _ _).mono ?_; rintro e w' ⟨rfl, rfl⟩)
  go_loopw [26] (fun q' wr => ∃ (i : Nat) (a : Option Addr) (n c : Nat), i ≤ q ∧ q' = .int .i64 i ∧ Loc wr w.heap.size #[.int .i64 0, .slice none 0 0] 24 ∧ Loc wr (w.heap.size + 1) #[.int .i64 p, .slice a n c] 24 ∧ Own wr (w.heap.size + 2) a n c (torW p i) ∧ Below w.heap.size w wr ∧ w.heap.size + 2 ≤ wr.heap.size) (fun q' _ => q - (intOf q').toNat)
  case atStart => exact ⟨0, none, 0, 0, Nat.zero_le _, by simp, (Loc.new _ rfl _ _).alloc _, Loc.new _ (by simp) _ _, Own.nil _ _, (((Below.refl _ _).alloc (Nat.le_refl _) _).alloc (by simp) _), by simp⟩
  case round =>
    obtain ⟨i, a, n, c, hi, rfl, hr, hb, ho, hbl, hsz⟩ := hrel
    by_cases hlt : i < q
    · go_wp2
      obtain ⟨wo, hwo⟩ : ∃ wo : World, wo = wr := ⟨_, rfl⟩
      subst hwo
      go_loopw [7] (fun k' wr => ∃ (k : Nat) (a : Option Addr) (n c : Nat), 1 ≤ k ∧ k ≤ p ∧ k' = .int .i64 k ∧ Loc wr w.heap.size #[.int .i64 0, .slice none 0 0] 24 ∧ Loc wr (w.heap.size + 1) #[.int .i64 p, .slice a n c] 24 ∧ Own wr (w.heap.size + 2) a n c (torW p i ++ seqI (k - 1)) ∧ Below w.heap.size w wr ∧ w.heap.size + 2 ≤ wr.heap.size) (fun k' _ => p - (intOf k').toNat)
      case atStart => exact ⟨1, a, n, c, by omega, by omega, rfl, hr, hb, by simpa [seqI] using ho, hbl, hsz⟩
      case round =>
        clear hr hb ho hbl hsz
        obtain ⟨k, a, n, c, hk1, hk2, rfl, hr, hb, ho, hbl, hsz⟩ := hrel
        have hc := hb.two
        have hn : n + 1 ≤ 1000000000000 := by
          have := ho.len
          simp [torW_length, seqI_length] at this
          have := tor_bound h2 h3 (Nat.le_of_lt hlt)
          omega
        by_cases hkp : k < p
        · go_wp2_with (at_builtin; refine app1 rfl rfl ho rfl rfl hn (by omega) ?_; intro g' c' w' hO' hg' hs' hb'; have hB2 := hb.below hb' (by omega); have hR2 := hr.below hb' (by omega); have hc2 := hB2.two; clear hg')
          go_roundw
          case rel =>
            refine ⟨k + 1, _, _, _, by omega, by omega, by go_num, hR2.setne (by simp) _, hB2.set 1 _, ?_, ((hbl.trans (hb'.mono (by omega))).setCell (by simp) _), by rw [size_set]; omega⟩
            obtain ⟨k, rfl⟩ : ∃ j, k = j + 1 := ⟨k - 1, by omega⟩
            have e : torW p i ++ seqI (k + 1 + 1 - 1) = torW p i ++ seqI (k + 1 - 1) ++ [((k + 1 : Nat) : Int)] := by simp [seqI_succ]
            rw [e]
            exact hO'.setlo (by simp) _
          case measure => simp [intOf]; omega
        · obtain rfl : k = p := by omega
          go_wp2
          go_roundw
          case rel =>
            refine ⟨i + 1, _, _, _, by omega, by go_num, hr, hb, ?_, hbl, hsz⟩
            rw [torW_succ]; exact ho
          case measure => simp [intOf]; omega
    · obtain rfl : i = q := by omega
      have hc := hb.two
      have hd := hr.two
      go_wp2
      refine bodyPost_ret (v := .tuple #[bAgg p a n c, .int .i64 0]) (by simp [results, Try.results21, go_sem, hc, hd]) rfl ⟨a, n, c, rfl, ?_, ?_⟩
      · exact ((ho.setlo (by simp <;> omega) _).setlo (by simp <;> omega) _).mono (by simp <;> omega)
      · exact (hbl.setCell (by simp) _).setCell (by simp) _

set_option maxHeartbeats 400000 in
theorem spec_Torus_range (p q : Int) (w : World) (h : ¬ ((2 ≤ p ∧ p ≤ 6) ∧ (0 ≤ q ∧ q ≤ 30))) :
    Calls Try.prog 22 #[.int .i64 p, .int .i64 q] w (RetB w 0 [] 2) := by
  by_cases h1 : 2 ≤ p ∧ p ≤ 6
  · have k1 : decide (2 ≤ p) = true := by simpa using h1.1
    have k2 : decide (p ≤ 6) = true := by simpa using h1.2
    by_cases h2 : 0 ≤ q
    · have k3 : decide (0 ≤ q) = true := by simpa using h2
      have k4 : decide (q ≤ 30) = false := by simp; omega
      go_enter Try.func22, Try.ntmps22
      go_wp2_with (go_at_call 81; refine (l01In_any _ _ _ _).mono ?_; rintro e w' ⟨rfl, rfl⟩)
      refine bodyPost_ret (v := .tuple #[bAgg 0 none 0 0, .int .i64 2]) (by simp [results, Try.results22, go_sem]) rfl ⟨none, 0, 0, rfl, Own.nil _ _, ?_⟩
      exact (Below.refl _ _).alloc (Nat.le_refl _) _
    · have k3 : decide (0 ≤ q) = false := by simp; omega
      go_enter Try.func22, Try.ntmps22
      go_wp2_with (go_at_call 81; refine (l01In_any _ _ _ _).mono ?_; rintro e w' ⟨rfl, rfl⟩)
      refine bodyPost_ret (v := .tuple #[bAgg 0 none 0 0, .int .i64 2]) (by simp [results, Try.results22, go_sem]) rfl ⟨none, 0, 0, rfl, Own.nil _ _, ?_⟩
      exact (Below.refl _ _).alloc (Nat.le_refl _) _
  · have k1 : (decide (2 ≤ p) && decide (p ≤ 6)) = false := by simp; omega
    go_enter Try.func22, Try.ntmps22
    go_wp2_with (go_at_call 81; refine (l01In_any _ _ _ _).mono ?_; rintro e w' ⟨rfl, rfl⟩; rw [k1])
    refine bodyPost_ret (v := .tuple #[bAgg 0 none 0 0, .int .i64 2]) (by simp [results, Try.results22, go_sem]) rfl ⟨none, 0, 0, rfl, Own.nil _ _, ?_⟩
    exact (Below.refl _ _).alloc (Nat.le_refl _) _

set_option maxHeartbeats 400000 in
theorem spec_Torus_limit (p q : Int) (w : World) (h1 : 2 ≤ p) (h2 : p ≤ 6) (h3 : 0 ≤ q) (h4 : q ≤ 30) (h5 : 30 < (p - 1) * q) (h6 : (p - 1) * q ≤ 200) :
    Calls Try.prog 22 #[.int .i64 p, .int .i64 q] w (RetB w 0 [] 3) := by
  have k1 : decide ((2 : Int) ≤ p) = true := by simpa using h1
  have k2 : decide ((p : Int) ≤ 6) = true := by simpa using h2
  have k3 : decide (0 ≤ (q : Int)) = true := by simpa using h3
  have k4 : decide ((q : Int) ≤ 30) = true := by simpa using h4
  go_enter Try.func22, Try.ntmps22
  go_wp2_with (go_at_call 81; refine (l01In_any _ _ _ _).mono ?_; rintro e w' ⟨rfl, rfl⟩)
  refine bodyPost_ret (v := .tuple #[bAgg 0 none 0 0, .int .i64 3]) (by simp [results, Try.results22, go_sem]) rfl ⟨none, 0, 0, rfl, Own.nil _ _, ?_⟩
  exact (Below.refl _ _).alloc (Nat.le_refl _) _

set_option maxHeartbeats 400000 in
theorem impl_Torus_range (p q : Int) (w : World) (h : ¬ ((2 ≤ p ∧ p ≤ 6) ∧ (0 ≤ q ∧ q ≤ 30))) :
    Calls Try.prog 21 #[.int .i64 p, .int .i64 q] w (RetB w 0 [] 2) := by
  by_cases h1 : 2 ≤ p ∧ p ≤ 6
  · have k1 : decide (2 ≤ p) = true := by simpa using h1.1
    have k2 : decide (p ≤ 6) = true := by simpa using h1.2
    by_cases h2 : 0 ≤ q
    · have k3 : decide (0 ≤ q) = true := by simpa using h2
      have k4 : decide (q ≤ 30) = false := by simp; omega
      go_enter Try.func21, Try.ntmps21
      go_wp2_with (go_at_call 80; refine (within_any _ _ _ _).mono ?_; rintro e w' ⟨rfl, rfl⟩)
      refine bodyPost_ret (v := .tuple #[bAgg 0 none 0 0, .int .i64 2]) (by simp [results, Try.results21, go_sem]) rfl ⟨none, 0, 0, rfl, Own.nil _ _, ?_⟩
      exact (Below.refl _ _).alloc (Nat.le_refl _) _
    · have k3 : decide (0 ≤ q) = false := by simp; omega
      go_enter Try.func21, Try.ntmps21
      go_wp2_with (go_at_call 80; refine (within_any _ _ _ _).mono ?_; rintro e w' ⟨rfl, rfl⟩)
      refine bodyPost_ret (v := .tuple #[bAgg 0 none 0 0, .int .i64 2]) (by simp [results, Try.results21, go_sem]) rfl ⟨none, 0, 0, rfl, Own.nil _ _, ?_⟩
      exact (Below.refl _ _).alloc (Nat.le_refl _) _
  · have k1 : (decide (2 ≤ p) && decide (p ≤ 6)) = false := by simp; omega
    go_enter Try.func21, Try.ntmps21
    go_wp2_with (go_at_call 80; refine (within_any _ _ _ _).mono ?_; rintro e w' ⟨rfl, rfl⟩; rw [k1])
    refine bodyPost_ret (v := .tuple #[bAgg 0 none 0 0, .int .i64 2]) (by simp [results, Try.results21, go_sem]) rfl ⟨none, 0, 0, rfl, Own.nil _ _, ?_⟩
    exact (Below.refl _ _).alloc (Nat.le_refl _) _

set_option maxHeartbeats 400000 in
theorem impl_Torus_limit (p q : Int) (w : World) (h1 : 2 ≤ p) (h2 : p ≤ 6) (h3 : 0 ≤ q) (h4 : q ≤ 30) (h5 : 30 < q * (p - 1)) (h6 : q * (p - 1) ≤ 200) :
    Calls Try.prog 21 #[.int .i64 p, .int .i64 q] w (RetB w 0 [] 3) := by
  have k1 : decide ((2 : Int) ≤ p) = true := by simpa using h1
  have k2 : decide ((p : Int) ≤ 6) = true := by simpa using h2
  have k3 : decide (0 ≤ (q : Int)) = true := by simpa using h3
  have k4 : decide ((q : Int) ≤ 30) = true := by simpa using h4
  go_enter Try.func21, Try.ntmps21
  go_wp2_with (go_at_call 80; refine (within_any _ _ _ _).mono ?_; rintro e w' ⟨rfl, rfl⟩)
  refine bodyPost_ret (v := .tuple #[bAgg 0 none 0 0, .int .i64 3]) (by simp [results, Try.results21, go_sem]) rfl ⟨none, 0, 0, rfl, Own.nil _ _, ?_⟩
  exact (Below.refl _ _).alloc (Nat.le_refl _) _

/-- what TorusBraid answers: strands, word, code -/
def torF (p q : Int) : Int × List Int × Int :=
  if (2 ≤ p ∧ p ≤ 6) ∧ (0 ≤ q ∧ q ≤ 30) then (if (p - 1) * q ≤ 30 then (p, torW p.toNat q.toNat, 0) else (0, [], 3)) else (0, [], 2)
theorem torF_len (p q : Int) : (torF p q).2.1.length ≤ 150 := by
  unfold torF
  split
  · split
    · simp only [torW_length]
      exact tor_bound (q := 30) (by omega) (by omega) (by omega)
    · simp
  · simp
theorem spec_Torus_any (p q : Int) (w : World) : Calls Try.prog 22 #[.int .i64 p, .int .i64 q] w (RetB w (torF p q).1 (torF p q).2.1 (torF p q).2.2) := by
  by_cases h : (2 ≤ p ∧ p ≤ 6) ∧ (0 ≤ q ∧ q ≤ 30)
  · by_cases h2 : (p - 1) * q ≤ 30
    · unfold torF; rw [if_pos h, if_pos h2]
      obtain ⟨p', rfl⟩ := Int.eq_ofNat_of_zero_le (show 0 ≤ p by omega)
      obtain ⟨q', rfl⟩ := Int.eq_ofNat_of_zero_le (show 0 ≤ q by omega)
      exact spec_Torus_ok p' q' w (by omega) (by omega) (by omega) h2
    · unfold torF; rw [if_pos h, if_neg h2]
      have h6 : (p - 1) * q ≤ 5 * 30 := Int.mul_le_mul (by omega) (by omega) (by omega) (by omega)
      exact spec_Torus_limit p q w h.1.1 h.1.2 h.2.1 h.2.2 (by omega) (by omega)
  · unfold torF; rw [if_neg h]; exact spec_Torus_range p q w h
theorem impl_Torus_any (p q : Int) (w : World) : Calls Try.prog 21 #[.int .i64 p, .int .i64 q] w (RetB w (torF p q).1 (torF p q).2.1 (torF p q).2.2) := by
  by_cases h : (2 ≤ p ∧ p ≤ 6) ∧ (0 ≤ q ∧ q ≤ 30)
  · have hc : q * (p - 1) = (p - 1) * q := Int.mul_comm _ _
    by_cases h2 : (p - 1) * q ≤ 30
    · unfold torF; rw [if_pos h, if_pos h2]
      obtain ⟨p', rfl⟩ := Int.eq_ofNat_of_zero_le (show 0 ≤ p by omega)
      obtain ⟨q', rfl⟩ := Int.eq_ofNat_of_zero_le (show 0 ≤ q by omega)
      exact impl_Torus_ok p' q' w (by omega) (by omega) (by omega) (by omega)
    · unfold torF; rw [if_pos h, if_neg h2]
      have h6 : (p - 1) * q ≤ 5 * 30 := Int.mul_le_mul (by omega) (by omega) (by omega) (by omega)
      exact impl_Torus_limit p q w h.1.1 h.1.2 h.2.1 h.2.2 (by omega) (by omega)
  · unfold torF; rw [if_neg h]; exact impl_Torus_range p q w h

end Go.Proofs.Ytehomfbehhlhmaa
