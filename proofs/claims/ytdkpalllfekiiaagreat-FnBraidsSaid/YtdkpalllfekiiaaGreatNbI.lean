/-
  The program's NormalBraid and AreEqualBraids at braids.
  No condition but bounds.
-/
import Derived.Test.YtdkpalllfekiiaaGreatNfI
import Derived.Test.YtdkpalllfekiiaaGreatBase
namespace Go.Proofs.YtdkpalllfekiiaaGreat
set_option maxRecDepth 100000
set_option linter.unusedVariables false
set_option linter.unusedSimpArgs false
open Go.RowKit

theorem br_ltr {n : Nat} {xs : List Int} (hb : isBr n xs = true) : 2 ≤ n ∧ n ≤ 6 ∧ xs.length ≤ 30 ∧ ∀ x ∈ xs, Ltr n x := by
  obtain ⟨h26, h30, hlet⟩ := isBr_let hb
  exact ⟨by omega, by omega, h30, fun x hx => ltr_of rfl (hlet x hx)⟩
theorem br_fx {n : Nat} {xs : List Int} (hb : isBr n xs = true) : AFx n (begS n (0, []) xs).2 := beg_fx xs _ (fun p hp => by simp at hp) (br_ltr hb).2.2.2
theorem br_nfo {n : Nat} {xs : List Int} (hb : isBr n xs = true) : ∃ r, NFo n (begS n (0, []) xs) r := nfo_ex (br_fx hb)
/-- what NormalBraid leaves -/
def NbR (n : Nat) (xs : List Int) (w : World) (r : Int × List (List Int)) (e : Ending) (w' : World) : Prop :=
  ∃ (a : Option Addr) (m c : Nat), e = .returned (.tuple #[.int .i64 r.1, .slice a m c, .int .i64 0]) ∧ Tbl w' a m r.2 ∧ Below w.heap.size w w' ∧ -100 ≤ r.1 ∧ r.1 ≤ 100 ∧ m ≤ 30 ∧ ∀ y ∈ r.2, y.length = n

set_option maxHeartbeats 2000000 in
theorem normalBraid_ok (n : Nat) (a : Option Addr) (N c : Nat) (xs : List Int) (r : Int × List (List Int)) (w : World) (h1 : Row w a N xs) (hb : isBr n xs = true) (hr : NFo n (begS n (0, []) xs) r) :
    Calls Tryz.prog 12 #[bAgg n a N c] w (NbR n xs w r) := by
  have hA := Loc.new w rfl #[.int .i64 n, .slice a N c] 26
  have lA := hA.two
  have HB := Lib.hid hb
  have HR := Lib.hid hr
  have hN : N ≤ 30 := by have := (br_ltr hb).2.2.1; have := h1.len; omega
  clear hb hr
  go_enter Tryz.func12, Tryz.ntmps12
  go_wp2_with fail
  refine (isBraid_any n a N c xs _ (h1.alloc _) (by omega)).mono ?_
  rintro e w1 ⟨rfl, hb1⟩
  rw [HB.out]
  have hA1 := hA.below hb1 (by simp)
  have lA1 := hA1.two
  have hB1 : Below w.heap.size w w1 := below_alth (Below.refl _ _) hb1
  go_wp2_with fail
  refine (normalForm_any n a N c xs w1 (h1.below hB1) HB.out).mono ?_
  rintro e w2 ⟨x, a2, m, c2, F, rfl, hn, ht, hb2, b1, b2, b3, b4⟩
  obtain ⟨h2, _, _, _⟩ := br_ltr HB.out
  have he := nfo_one h2 (br_fx HB.out) hn HR.out
  have HE := Lib.hid he
  clear he hn h2
  go_wp2
  go_ret3
  exact ⟨a2, m, c2, by rw [← HE.out]; rfl, by rw [← HE.out]; exact ht, below_th hB1 hb2, by rw [← HE.out]; exact b1, by rw [← HE.out]; exact b2, b3, by rw [← HE.out]; exact b4⟩
set_option maxHeartbeats 2000000 in
theorem normalBraid_no (s : Int) (a : Option Addr) (N c : Nat) (xs : List Int) (w : World) (h1 : Row w a N xs) (hm : N ≤ 9223372036854775807) (hb : isBr s xs = false) :
    Calls Tryz.prog 12 #[bAgg s a N c] w fun e w' => e = .returned (.tuple #[.int .i64 0, .slice none 0 0, .int .i64 1]) ∧ Below w.heap.size w w' := by
  have hA := Loc.new w rfl #[.int .i64 s, .slice a N c] 26
  have lA := hA.two
  have HB := Lib.hid hb
  clear hb
  go_enter Tryz.func12, Tryz.ntmps12
  go_wp2_with fail
  refine (isBraid_any s a N c xs _ (h1.alloc _) hm).mono ?_
  rintro e w1 ⟨rfl, hb1⟩
  rw [HB.out]
  go_wp2
  go_ret3
  exact ⟨rfl, below_alth (Below.refl _ _) hb1⟩

set_option maxHeartbeats 4000000 in
theorem areEqualBraids_ok (n : Nat) (a a' : Option Addr) (N N' c c' : Nat) (xs ys : List Int) (r r' : Int × List (List Int)) (w : World) (h1 : Row w a N xs) (h2 : Row w a' N' ys) (hb : isBr n xs = true) (hb' : isBr n ys = true) (hr : NFo n (begS n (0, []) xs) r) (hr' : NFo n (begS n (0, []) ys) r') :
    Calls Tryz.prog 6 #[bAgg n a N c, bAgg n a' N' c'] w fun e w' => e = .returned (.tuple #[.bool (decide (r = r')), .int .i64 0]) ∧ Below w.heap.size w w' := by
  obtain ⟨w0, hw0⟩ : ∃ w0, (w.alloc (.cells #[.int .i64 n, .slice a N c] 26)).alloc (.cells #[.int .i64 n, .slice a' N' c'] 26) = w0 := ⟨_, rfl⟩
  have hA : Loc w0 w.heap.size #[.int .i64 n, .slice a N c] 26 := by rw [← hw0]; exact (Loc.new w rfl _ _).alloc _
  have hC : Loc w0 (w.heap.size + 1) #[.int .i64 n, .slice a' N' c'] 26 := by rw [← hw0]; exact Loc.new _ (by simp) _ _
  have hB0 : Below w.heap.size w w0 := by rw [← hw0]; exact below_al (below_al (Below.refl _ _) _) _
  have lA := hA.two
  have lC := hC.two
  have HB := Lib.hid hb
  have HB' := Lib.hid hb'
  have HR := Lib.hid hr
  have HR' := Lib.hid hr'
  have hN : N ≤ 30 := by have := (br_ltr hb).2.2.1; have := h1.len; omega
  have hN' : N' ≤ 30 := by have := (br_ltr hb').2.2.1; have := h2.len; omega
  have hnn : ((n : Int) != (n : Int)) = false := by simp
  clear hb hr hb' hr'
  go_enter Tryz.func6, Tryz.ntmps6
  go_wp2_with fail
  refine (isBraid_any n a N c xs w0 (h1.below hB0) (by omega)).mono ?_
  rintro e w1 ⟨rfl, hb1⟩
  rw [HB.out]
  have hA1 := hA.below hb1 hA.lt
  have hC1 := hC.below hb1 hC.lt
  have lA1 := hA1.two
  have lC1 := hC1.two
  have hB1 := below_th hB0 hb1
  clear hw0 lA lC
  go_wp2_with fail
  refine (isBraid_any n a' N' c' ys w1 (h2.below hB1) (by omega)).mono ?_
  rintro e w2 ⟨rfl, hb2⟩
  rw [HB'.out]
  have hA2 := hA1.below hb2 hA1.lt
  have hC2 := hC1.below hb2 hC1.lt
  have lA2 := hA2.two
  have lC2 := hC2.two
  have hB2 := below_th hB1 hb2
  clear lA1 lC1
  go_wp2_with fail
  refine (normalForm_any n a N c xs w2 (h1.below hB2) HB.out).mono ?_
  rintro e w3 ⟨x, a3, m3, c3, F, rfl, hn3, ht3, hb3, b1, b2, b3, b4⟩
  have hC3 := hC2.below hb3 hC2.lt
  have lC3 := hC3.two
  have hB3 := below_th hB2 hb3
  go_wp2_with fail
  refine (normalForm_any n a' N' c' ys w3 (h2.below hB3) HB'.out).mono ?_
  rintro e w4 ⟨y, a4, m4, c4, G, rfl, hn4, ht4, hb4, d1, d2, d3, d4⟩
  have hB4 := below_th hB3 hb4
  obtain ⟨h2', _, _, _⟩ := br_ltr HB.out
  have he : r = (x, F) := nfo_one h2' (br_fx HB.out) HR.out hn3
  have he' : r' = (y, G) := nfo_one h2' (br_fx HB'.out) HR'.out hn4
  have HE : Hid (decide (r = r') = (decide (x = y) && decide (F = G))) := Lib.hid (by rw [he, he', Bool.eq_iff_iff]; simp)
  have hm3 : m3 ≤ 9223372036854775807 := by omega
  clear he he' hn3 hn4 h2'
  by_cases hxy : x = y
  · subst hxy
    have hxx : (x == x) = true := by simp
    go_wp2_with fail
    refine (equalTables_any _ _ _ _ _ _ F G w4 (ht3.below hb4) ht4 hm3).mono ?_
    rintro e w5 ⟨rfl, rfl⟩
    go_wp2
    go_ret2
    exact ⟨by rw [HE.out]; simp, hB4⟩
  · have hxx : (x == y) = false := by simp [hxy]
    have HD : Hid (decide (x = y) = false) := Lib.hid (by simp [hxy])
    clear hxy
    go_wp2
    go_ret2
    exact ⟨by rw [HE.out, HD.out]; rfl, hB4⟩
end Go.Proofs.YtdkpalllfekiiaaGreat
