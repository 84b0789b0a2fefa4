/-
  The reference's drawn primes, moduli and pair maps with a prime.
  No condition but bounds.
-/
import Derived.Test.YtnlgmhckjpifiaaGreatSpl
import Derived.Test.YtnlgmhckjpifiaaGreatBase3
import Derived.Test.YtnlgmhckjpifiaaGreatBase4
namespace Go.Proofs.YtnlgmhckjpifiaaGreat
set_option maxRecDepth 100000
set_option linter.unusedVariables false
set_option linter.unusedSimpArgs false
open Go.RowKit

/-- what a function that draws a small number leaves -/
def NmD (b : Nat) (w : World) (e : Ending) (w' : World) : Prop :=
  ∃ p : Int, e = .returned (.int .i64 p) ∧ -2 ≤ p ∧ p ≤ 13 ∧ Src w' b ∧ w.grownBy w' (some b)
set_option maxHeartbeats 4000000 in
theorem l15DrawPrime_ok (b : Nat) (w : World) (h : Src w b) :
    Calls Tryz.prog 95 #[.pointer (some ⟨b, 0, none⟩)] w (NmD b w) := by
  have hlt := h.lt
  go_enter Tryz.func95, Tryz.ntmps95
  go_wp2_with fail
  refine (l01Next_ok b 20 _ h ⟨by omega, by omega⟩).mono ?_
  rintro e w1 ⟨x, rfl, _, hx, hs1, hg1⟩
  have hz1 := hs1.lt
  by_cases x0 : x = 0
  · subst x0
    go_wp2_with fail
    refine (l01Pick_ok b _ _ _ [4, 1, 11, 0, -2] _ (hs1.below (below_al (Below.refl _ _) _)) (row_lit w1 _ _ _ rfl) (by decide) (by decide) (fun g o e => by cases e; omega)).mono ?_
    rintro e w2 ⟨q, rfl, hq, hs2, hg2⟩
    go_wp2
    go_ret
    have hq' : -2 ≤ q ∧ q ≤ 13 := by simp at hq; omega
    exact ⟨q, rfl, hq'.1, hq'.2, hs2, grown_trans (grown_alloc hg1 _) hg2⟩
  · have xb : (x == 0) = false := by simpa using x0
    go_wp2_with fail
    refine (l01Pick_ok b _ _ _ [2, 3, 5, 7, 2, 3] _ (hs1.below (below_al (Below.refl _ _) _)) (row_lit w1 _ _ _ rfl) (by decide) (by decide) (fun g o e => by cases e; omega)).mono ?_
    rintro e w2 ⟨q, rfl, hq, hs2, hg2⟩
    go_wp2
    go_ret
    have hq' : -2 ≤ q ∧ q ≤ 13 := by simp at hq; omega
    exact ⟨q, rfl, hq'.1, hq'.2, hs2, grown_trans (grown_alloc hg1 _) hg2⟩
set_option maxHeartbeats 4000000 in
theorem l18DrawModulus_ok (b : Nat) (w : World) (h : Src w b) :
    Calls Tryz.prog 128 #[.pointer (some ⟨b, 0, none⟩)] w (NmD b w) := by
  have hlt := h.lt
  go_enter Tryz.func128, Tryz.ntmps128
  go_wp2_with fail
  refine (l01Next_ok b 24 _ h ⟨by omega, by omega⟩).mono ?_
  rintro e w1 ⟨x, rfl, _, hx, hs1, hg1⟩
  have hz1 := hs1.lt
  by_cases x0 : x = 0
  · subst x0
    go_wp2_with fail
    refine (l01Pick_ok b _ _ _ [0, 13, -1] _ (hs1.below (below_al (Below.refl _ _) _)) (row_lit w1 _ _ _ rfl) (by decide) (by decide) (fun g o e => by cases e; omega)).mono ?_
    rintro e w2 ⟨q, rfl, hq, hs2, hg2⟩
    go_wp2
    go_ret
    have hq' : -2 ≤ q ∧ q ≤ 13 := by simp at hq; omega
    exact ⟨q, rfl, hq'.1, hq'.2, hs2, grown_trans (grown_alloc hg1 _) hg2⟩
  · have xb : (x == 0) = false := by simpa using x0
    go_wp2_with fail
    refine (l01Pick_ok b _ _ _ [2, 3, 2, 3, 4, 5, 1, 6] _ (hs1.below (below_al (Below.refl _ _) _)) (row_lit w1 _ _ _ rfl) (by decide) (by decide) (fun g o e => by cases e; omega)).mono ?_
    rintro e w2 ⟨q, rfl, hq, hs2, hg2⟩
    go_wp2
    go_ret
    have hq' : -2 ≤ q ∧ q ≤ 13 := by simp at hq; omega
    exact ⟨q, rfl, hq'.1, hq'.2, hs2, grown_trans (grown_alloc hg1 _) hg2⟩

/-- what DrawWeightBasis leaves: a pair map, or something that is none, and a number -/
def DrWb (w : World) (e : Ending) (w' : World) : Prop :=
  ∃ (a : Option Addr) (n c : Nat) (vs : List SV) (f : List (List Int)) (a' : Option Addr) (n' c' : Nat) (vs' : List SV) (g : List (List Int)) (p : Int), e = .returned (.tuple #[sAgg a n c a' n' c', .int .i64 p]) ∧ n ≤ 14 ∧ n' ≤ 14 ∧ -2 ≤ p ∧ p ≤ 13 ∧ OwnT w' w.heap.size a n c vs f ∧ OwnT w' w.heap.size a' n' c' vs' g ∧ Below w.heap.size w w'
set_option maxHeartbeats 8000000 in
theorem DrawWeightBasis_ok (a : Option Addr) (n c : Nat) (xs : List Int) (w : World) (h : Bts w a n xs) (hn : n ≤ 9223372036854775807) :
    Calls Tryz.prog 28 #[.slice a n c] w (DrWb w) := by
  have hR := Loc.new w rfl #[.slice none 0 0, .slice none 0 0] 29
  go_enter Tryz.func28, Tryz.ntmps28
  go_wp2_with fail
  refine (l01From_ok a n c xs _ (h.below (below_al (Below.refl _ _) _)) hn).mono ?_
  rintro e w1 ⟨b, rfl, hb, hs1, hb1⟩
  have hR1 := hR.below hb1 hR.lt
  have hB1 := below_alth (Below.refl _ _) hb1
  rw [size_alloc] at hb
  go_wp2_with fail
  refine (l01Next_ok b 20 _ hs1 ⟨by omega, by omega⟩).mono ?_
  rintro e w2 ⟨x, rfl, _, hx, hs2, hg2⟩
  have hR2 := hR1.grown hg2 (by simp; omega)
  have hB2 := below_grown hB1 hg2 (by omega)
  have hz2 := hs2.lt
  have hRl := hR2.lt
  by_cases x0 : x = 0
  · subst x0
    go_wp2_with fail
    refine (l02Flip_any 9 _ (by omega)).mono ?_
    rintro e w3 ⟨a4, c4, vs4, a4', c4', vs4', rfl, ho3, hb3⟩
    have hR3 := hR2.below hb3 hRl
    have hB3 := below_th hB2 hb3
    have lR := hR3.two
    go_wp2
    exact bodyPost_ret (v := .tuple #[sAgg a4 9 c4 a4' 9 c4', .int .i64 2]) (by simp [results, Tryz.results28, go_sem, lR]) rfl ⟨a4, 9, c4, vs4, _, a4', 9, c4', vs4', _, 2, rfl, by omega, by omega, by omega, by omega, ((ho3.f.setlo (by simp; omega) _).setlo (by simp; omega) _).mono (by omega), ((ho3.s.setlo (by simp; omega) _).setlo (by simp; omega) _).mono (by omega), (hB3.setCell (by simp) _).setCell (by simp) _⟩
  · have xb : (x == 0) = false := by simpa using x0
    go_wp2_with fail
    refine (l01Pick_ok b _ _ _ [3, 4, 5, 6] _ (hs2.below (below_al (Below.refl _ _) _)) (row_lit w2 _ _ _ rfl) (by decide) (by decide) (fun g o e => by cases e; omega)).mono ?_
    rintro e w3 ⟨q, rfl, hq, hs3, hg3⟩
    have hq' : 3 ≤ q ∧ q ≤ 6 := by simp at hq; omega
    obtain ⟨M, rfl⟩ : ∃ M : Nat, q = M := ⟨q.toNat, by omega⟩
    have hR3 := (hR2.alloc (.cells #[.int .i64 3, .int .i64 4, .int .i64 5, .int .i64 6] 2)).grown hg3 (by simp; omega)
    have hB3 := below_grown (below_al hB2 (.cells #[.int .i64 3, .int .i64 4, .int .i64 5, .int .i64 6] 2)) hg3 (by omega)
    have hz3 := hs3.lt
    have hzz := hg3.size
    rw [size_alloc] at hzz
    go_wp2_with fail
    refine (l02Spoil_ok M b _ hs3 (by omega) (by omega)).mono ?_
    rintro e w4 ⟨a4, n4, c4, vs4, f, a4', n4', c4', vs4', g, rfl, hn4, hn4', hf4, hg4', hs4, hg4⟩
    have hR4 := hR3.grown hg4 (by simp; omega)
    have hB4 := below_grown hB3 hg4 (by omega)
    have hz4 := hg4.size
    go_wp2_with fail
    refine (l15DrawPrime_ok b _ hs4).mono ?_
    rintro e w5 ⟨p, rfl, hp1, hp2, hs5, hg5⟩
    have hR5 := hR4.grown hg5 (by simp; omega)
    have hB5 := below_grown hB4 hg5 (by omega)
    have hf5 := hf4.grownS hg5 (by omega)
    have hg5' := hg4'.grownS hg5 (by omega)
    have lR := hR5.two
    go_wp2
    exact bodyPost_ret (v := .tuple #[sAgg a4 n4 c4 a4' n4' c4', .int .i64 p]) (by simp [results, Tryz.results28, go_sem, lR]) rfl ⟨a4, n4, c4, vs4, f, a4', n4', c4', vs4', g, p, rfl, hn4, hn4', hp1, hp2, ((hf5.setlo (by simp; omega) _).setlo (by simp; omega) _).mono (by omega), ((hg5'.setlo (by simp; omega) _).setlo (by simp; omega) _).mono (by omega), (hB5.setCell (by simp) _).setCell (by simp) _⟩
end Go.Proofs.YtnlgmhckjpifiaaGreat
