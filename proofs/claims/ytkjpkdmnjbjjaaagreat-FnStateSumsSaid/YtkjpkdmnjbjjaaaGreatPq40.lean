/-
  Walks and plain laws of this seat, some texts in one.
  No condition but bounds on lengths.
-/
import Derived.Test.YtkjpkdmnjbjjaaaGreatPq39
import Derived.Test.YtkjpkdmnjbjjaaaGreatPq10
namespace Go.Proofs.YtkjpkdmnjbjjaaaGreat
set_option maxRecDepth 100000
set_option linter.unusedVariables false
set_option linter.unusedSimpArgs false
open Go.RowKit
set_option maxHeartbeats 4000000 in
theorem l18Braid_ok (b : Nat) (w : World) (h : Src w b) :
    Calls Tryz.prog 108 #[.pointer (some ⟨b, 0, none⟩)] w (DrB b w 0 10 31) := by
  have hlt := h.lt
  go_enter Tryz.func108, Tryz.ntmps108
  have hR := Loc.new w rfl #[.int .i64 0, .slice none 0 0] 42
  have hG0 := World.grownBy_alloc w (.cells #[.int .i64 0, .slice none 0 0] 42) (some b)
  go_wp2_with fail
  refine (l01Next_ok b 3 _ (h.below (below_al (Below.refl _ _) _)) ⟨by omega, by omega⟩).mono ?_
  rintro e w1 ⟨x, rfl, _, hx, hs1, hg1⟩
  obtain ⟨hx1, hx2⟩ := hx (by omega)
  obtain ⟨K, hK⟩ : ∃ K : Nat, 2 + x = K := ⟨(2 + x).toNat, by omega⟩
  have hwK : IntKind.i64.wrap (2 + x) = (K : Int) := by rw [hK]; exact IntWalk.i64_in _ (by omega)
  have hKb : 2 ≤ K ∧ K ≤ 10 := by omega
  have hR1 := hR.grown hg1 (by simp; omega)
  have hG1 := grown_trans hG0 hg1
  have hz1 := hR1.lt
  clear hK hx hR hG0
  go_wp2_with fail
  refine (l16DrawAny_ok b K 8 _ hs1 hKb.1 hKb.2 (by omega)).mono ?_
  rintro e w2 ⟨S, ab, nb, cb, ys, rfl, hS1, hS2, hnb, hsm, hob, hs2, hg2⟩
  have hR2 := hR1.grown hg2 (by simp; omega)
  have hG2 := grown_trans hG1 hg2
  have lR2 := hR2.two
  go_wp2
  refine bodyPost_ret (v := bAgg S ab nb cb) (by simp [results, Tryz.results108, go_sem, lR2]) rfl ⟨S, ab, nb, cb, ys, rfl, hS1, hS2, hnb, hsm, ?_, ?_, ?_⟩
  · exact ((hob.setlo (by show w.heap.size < w1.heap.size; omega) _).setlo (by show w.heap.size < w1.heap.size; omega) _).mono (by omega)
  · exact (hs2.setne (by show b < w.heap.size; omega) _).setne (by show b < w.heap.size; omega) _
  · exact grown_set (grown_set hG2 (.inr (by simp)) _) (.inr (by simp)) _
def DrSs (w : World) (e : Ending) (w' : World) : Prop :=
  ∃ (a : Option Addr) (n c : Nat) (f : List (List Int)) (a' : Option Addr) (n' c' : Nat) (g : List (List Int)) (m : Int) (am : Option Addr) (nm cm : Nat) (F : List (List Int)) (S : Int) (ab : Option Addr) (nb cb : Nat) (xs : List Int),
    e = .returned (.tuple #[sAgg a n c a' n' c', .int .i64 m, .slice am nm cm, bAgg S ab nb cb]) ∧ n ≤ 14 ∧ n' ≤ 14 ∧ nm ≤ 14 ∧ -2 ≤ m ∧ m ≤ 13 ∧ 0 ≤ S ∧ S ≤ 10 ∧ nb ≤ 31 ∧ nb ≤ cb ∧ cb ≤ 9223372036854775807 ∧ Sml xs ∧
    Tbl w' a n f ∧ Tbl w' a' n' g ∧ Tbl w' am nm F ∧ Row w' ab nb xs ∧ Below w.heap.size w w'
theorem tbl_rows {w : World} {b : Nat} {cs : Array Value} {t : TypeId} (h : Loc w b cs t) (F : List (List Int)) (hr : ∀ i, i < F.length → ∃ ai ni ci, cs[i]? = some (.slice ai ni ci) ∧ Row w ai ni (F.getD i []) ∧ ni ≤ 9223372036854775807) : Tbl w (some ⟨b, 0, none⟩) F.length F := by
  refine ⟨rfl, fun i hi => ?_⟩
  obtain ⟨ai, ni, ci, e1, e2, e3⟩ := hr i hi
  exact ⟨b, 0, ai, ni, ci, rfl, h.lt, by rw [Nat.zero_add]; exact h.cell i e1, e2, e3⟩
theorem lit5 (V w' : World) (hz : V.heap.size + 7 ≤ w'.heap.size) (hk : ∀ k, V.heap.size ≤ k → w'.heap[k]? = (((((((V.alloc (.cells #[.int .i64 0, .int .i64 1, .int .i64 0, .int .i64 0, .int .i64 0] 2)).alloc (.cells #[.int .i64 0, .int .i64 0, .int .i64 0, .int .i64 0, .int .i64 0] 2)).alloc (.cells #[.int .i64 0, .int .i64 0, .int .i64 0, .int .i64 0, .int .i64 0] 2)).alloc (.cells #[.int .i64 0, .int .i64 0, .int .i64 0, .int .i64 0, .int .i64 0] 2)).alloc (.cells #[.int .i64 0, .int .i64 0, .int .i64 0, .int .i64 0, .int .i64 0] 2)).alloc (.cells #[.slice (some ⟨V.heap.size, 0, none⟩) 5 5, .slice (some ⟨V.heap.size + 1, 0, none⟩) 5 5, .slice (some ⟨V.heap.size + 1 + 1, 0, none⟩) 5 5, .slice (some ⟨V.heap.size + 1 + 1 + 1, 0, none⟩) 5 5, .slice (some ⟨V.heap.size + 1 + 1 + 1 + 1, 0, none⟩) 5 5] 35)).alloc (.cells #[.int .i64 1] 2)).heap[k]?) :
    Tbl w' (some ⟨V.heap.size + 1 + 1 + 1 + 1 + 1, 0, none⟩) 5 [[0, 1, 0, 0, 0], [0, 0, 0, 0, 0], [0, 0, 0, 0, 0], [0, 0, 0, 0, 0], [0, 0, 0, 0, 0]] ∧ Row w' (some ⟨V.heap.size + 1 + 1 + 1 + 1 + 1 + 1, 0, none⟩) 1 [1] := by
  have h0 : Loc w' (V.heap.size) #[.int .i64 0, .int .i64 1, .int .i64 0, .int .i64 0, .int .i64 0] 2 := (hk _ (by omega)).trans (((((((Loc.new (b := V.heap.size) V (by simp) #[.int .i64 0, .int .i64 1, .int .i64 0, .int .i64 0, .int .i64 0] 2).alloc _).alloc _).alloc _).alloc _).alloc _).alloc _)
  have h1 : Loc w' (V.heap.size + 1) #[.int .i64 0, .int .i64 0, .int .i64 0, .int .i64 0, .int .i64 0] 2 := (hk _ (by omega)).trans ((((((Loc.new (b := V.heap.size + 1) (V.alloc (.cells #[.int .i64 0, .int .i64 1, .int .i64 0, .int .i64 0, .int .i64 0] 2)) (by simp) #[.int .i64 0, .int .i64 0, .int .i64 0, .int .i64 0, .int .i64 0] 2).alloc _).alloc _).alloc _).alloc _).alloc _)
  have h2 : Loc w' (V.heap.size + 1 + 1) #[.int .i64 0, .int .i64 0, .int .i64 0, .int .i64 0, .int .i64 0] 2 := (hk _ (by omega)).trans (((((Loc.new (b := V.heap.size + 1 + 1) ((V.alloc (.cells #[.int .i64 0, .int .i64 1, .int .i64 0, .int .i64 0, .int .i64 0] 2)).alloc (.cells #[.int .i64 0, .int .i64 0, .int .i64 0, .int .i64 0, .int .i64 0] 2)) (by simp) #[.int .i64 0, .int .i64 0, .int .i64 0, .int .i64 0, .int .i64 0] 2).alloc _).alloc _).alloc _).alloc _)
  have h3 : Loc w' (V.heap.size + 1 + 1 + 1) #[.int .i64 0, .int .i64 0, .int .i64 0, .int .i64 0, .int .i64 0] 2 := (hk _ (by omega)).trans ((((Loc.new (b := V.heap.size + 1 + 1 + 1) (((V.alloc (.cells #[.int .i64 0, .int .i64 1, .int .i64 0, .int .i64 0, .int .i64 0] 2)).alloc (.cells #[.int .i64 0, .int .i64 0, .int .i64 0, .int .i64 0, .int .i64 0] 2)).alloc (.cells #[.int .i64 0, .int .i64 0, .int .i64 0, .int .i64 0, .int .i64 0] 2)) (by simp) #[.int .i64 0, .int .i64 0, .int .i64 0, .int .i64 0, .int .i64 0] 2).alloc _).alloc _).alloc _)
  have h4 : Loc w' (V.heap.size + 1 + 1 + 1 + 1) #[.int .i64 0, .int .i64 0, .int .i64 0, .int .i64 0, .int .i64 0] 2 := (hk _ (by omega)).trans (((Loc.new (b := V.heap.size + 1 + 1 + 1 + 1) ((((V.alloc (.cells #[.int .i64 0, .int .i64 1, .int .i64 0, .int .i64 0, .int .i64 0] 2)).alloc (.cells #[.int .i64 0, .int .i64 0, .int .i64 0, .int .i64 0, .int .i64 0] 2)).alloc (.cells #[.int .i64 0, .int .i64 0, .int .i64 0, .int .i64 0, .int .i64 0] 2)).alloc (.cells #[.int .i64 0, .int .i64 0, .int .i64 0, .int .i64 0, .int .i64 0] 2)) (by simp) #[.int .i64 0, .int .i64 0, .int .i64 0, .int .i64 0, .int .i64 0] 2).alloc _).alloc _)
  have h5 : Loc w' (V.heap.size + 1 + 1 + 1 + 1 + 1) #[.slice (some ⟨V.heap.size, 0, none⟩) 5 5, .slice (some ⟨V.heap.size + 1, 0, none⟩) 5 5, .slice (some ⟨V.heap.size + 1 + 1, 0, none⟩) 5 5, .slice (some ⟨V.heap.size + 1 + 1 + 1, 0, none⟩) 5 5, .slice (some ⟨V.heap.size + 1 + 1 + 1 + 1, 0, none⟩) 5 5] 35 := (hk _ (by omega)).trans ((Loc.new (b := V.heap.size + 1 + 1 + 1 + 1 + 1) (((((V.alloc (.cells #[.int .i64 0, .int .i64 1, .int .i64 0, .int .i64 0, .int .i64 0] 2)).alloc (.cells #[.int .i64 0, .int .i64 0, .int .i64 0, .int .i64 0, .int .i64 0] 2)).alloc (.cells #[.int .i64 0, .int .i64 0, .int .i64 0, .int .i64 0, .int .i64 0] 2)).alloc (.cells #[.int .i64 0, .int .i64 0, .int .i64 0, .int .i64 0, .int .i64 0] 2)).alloc (.cells #[.int .i64 0, .int .i64 0, .int .i64 0, .int .i64 0, .int .i64 0] 2)) (by simp) #[.slice (some ⟨V.heap.size, 0, none⟩) 5 5, .slice (some ⟨V.heap.size + 1, 0, none⟩) 5 5, .slice (some ⟨V.heap.size + 1 + 1, 0, none⟩) 5 5, .slice (some ⟨V.heap.size + 1 + 1 + 1, 0, none⟩) 5 5, .slice (some ⟨V.heap.size + 1 + 1 + 1 + 1, 0, none⟩) 5 5] 35).alloc _)
  have h6 : Loc w' (V.heap.size + 1 + 1 + 1 + 1 + 1 + 1) #[.int .i64 1] 2 := (hk _ (by omega)).trans (Loc.new (b := V.heap.size + 1 + 1 + 1 + 1 + 1 + 1) ((((((V.alloc (.cells #[.int .i64 0, .int .i64 1, .int .i64 0, .int .i64 0, .int .i64 0] 2)).alloc (.cells #[.int .i64 0, .int .i64 0, .int .i64 0, .int .i64 0, .int .i64 0] 2)).alloc (.cells #[.int .i64 0, .int .i64 0, .int .i64 0, .int .i64 0, .int .i64 0] 2)).alloc (.cells #[.int .i64 0, .int .i64 0, .int .i64 0, .int .i64 0, .int .i64 0] 2)).alloc (.cells #[.int .i64 0, .int .i64 0, .int .i64 0, .int .i64 0, .int .i64 0] 2)).alloc (.cells #[.slice (some ⟨V.heap.size, 0, none⟩) 5 5, .slice (some ⟨V.heap.size + 1, 0, none⟩) 5 5, .slice (some ⟨V.heap.size + 1 + 1, 0, none⟩) 5 5, .slice (some ⟨V.heap.size + 1 + 1 + 1, 0, none⟩) 5 5, .slice (some ⟨V.heap.size + 1 + 1 + 1 + 1, 0, none⟩) 5 5] 35)) (by simp) #[.int .i64 1] 2)
  refine ⟨tbl_rows h5 [[0, 1, 0, 0, 0], [0, 0, 0, 0, 0], [0, 0, 0, 0, 0], [0, 0, 0, 0, 0], [0, 0, 0, 0, 0]] (fun i hi => ?_), row_loc h6 rfl rfl⟩
  have hi5 : i < 5 := hi
  match i, hi5 with
  | 0, _ => exact ⟨_, _, _, rfl, row_loc h0 rfl rfl, by omega⟩
  | 1, _ => exact ⟨_, _, _, rfl, row_loc h1 rfl rfl, by omega⟩
  | 2, _ => exact ⟨_, _, _, rfl, row_loc h2 rfl rfl, by omega⟩
  | 3, _ => exact ⟨_, _, _, rfl, row_loc h3 rfl rfl, by omega⟩
  | 4, _ => exact ⟨_, _, _, rfl, row_loc h4 rfl rfl, by omega⟩
set_option maxHeartbeats 16000000 in
theorem DrawStateSum_ok (a : Option Addr) (n c : Nat) (xs : List Int) (w : World) (h : Bts w a n xs) (hn : n ≤ 9223372036854775807) :
    Calls Tryz.prog 38 #[.slice a n c] w (DrSs w) := by
  go_enter Tryz.func38, Tryz.ntmps38
  have hP := (Loc.new w rfl #[.slice none 0 0, .slice none 0 0] 26).alloc (.cells #[.int .i64 0, .slice none 0 0] 42)
  have hR := Loc.new (w.alloc (.cells #[.slice none 0 0, .slice none 0 0] 26)) rfl #[.int .i64 0, .slice none 0 0] 42
  have hB0 := below_al (below_al (Below.refl w.heap.size w) (.cells #[.slice none 0 0, .slice none 0 0] 26)) (.cells #[.int .i64 0, .slice none 0 0] 42)
  rw [size_alloc] at hR
  go_wp2_with fail
  refine (l01From_ok a n c xs _ (h.below hB0) hn).mono ?_
  rintro e w1 ⟨b, rfl, hb, hs1, hb1⟩
  have hP1 := hP.below hb1 hP.lt
  have hR1 := hR.below hb1 hR.lt
  have hB1 := below_th hB0 hb1
  rw [size_alloc, size_alloc] at hb
  have hz1 := hs1.lt
  clear hP hR hB0 hb1
  go_wp2_with fail
  refine (l18DrawAny_ok 4 b _ hs1 (by omega) (by omega)).mono ?_
  rintro e w2 ⟨a1, n1, c1, f, a2, n2, c2, g, m, am, nm, cm, F, rfl, hn1, hn2, hnm, hm1, hm2, hf2, hg2', hF2, hs2, hg2⟩
  have hP2 := hP1.grown hg2 (by simp; omega)
  have hR2 := hR1.grown hg2 (by simp; omega)
  have hB2 := below_grown hB1 hg2 (by omega)
  have hz2 := hg2.size
  obtain ⟨w3, hw3⟩ : ∃ w3, w2.alloc (.cells #[.slice a1 n1 c1, .slice a2 n2 c2] 26) = w3 := ⟨_, rfl⟩
  have hb3 : Below w2.heap.size w2 w3 := by rw [← hw3]; exact below_al (Below.refl _ _) _
  have hX3 : Loc w3 w2.heap.size #[.slice a1 n1 c1, .slice a2 n2 c2] 26 := by rw [← hw3]; exact Loc.new w2 rfl _ _
  have hP3 := hP2.below hb3 hP2.lt
  have hR3 := hR2.below hb3 hR2.lt
  have hB3 := below_th hB2 hb3
  have hs3 := hs2.below hb3
  have hf3 := hf2.below hb3
  have hg3' := hg2'.below hb3
  have hF3 := hF2.below hb3
  have hz3 := hX3.lt
  have HW3 := Lib.hid hw3
  clear hP1 hR1 hB1 hs1 hP2 hR2 hB2 hs2 hf2 hg2' hF2 hg2 hb3 hw3
  go_wp2_with fail
  try rw [HW3.out]
  refine (l01Next_ok b 24 _ hs3 ⟨by omega, by omega⟩).mono ?_
  rintro e w4 ⟨x, rfl, _, _, hs4, hg4⟩
  have hP4 := hP3.grown hg4 (by simp; omega)
  have hR4 := hR3.grown hg4 (by simp; omega)
  have hX4 := hX3.grown hg4 (by simp; omega)
  have hB4 := below_grown hB3 hg4 (by omega)
  have hf4 := hf3.grown hg4 hz1
  have hg4' := hg3'.grown hg4 hz1
  have hF4 := hF3.grown hg4 hz1
  have hz4 := hg4.size
  clear hP3 hR3 hX3 hB3 hs3 hf3 hg3' hF3 hg4
  by_cases x0 : x = 0
  · subst x0
    go_wp2_with fail
    refine (l02Flip_any 5 _ (by omega)).mono ?_
    rintro e w5 ⟨a5, c5, vs5, a6, c6, vs6, rfl, ho5, hb5⟩
    have hP5 := hP4.below hb5 hP4.lt
    have hR5 := hR4.below hb5 hR4.lt
    have hB5 := below_th hB4 hb5
    have hz5 := hb5.size
    have hPa := (((((((hP5.alloc (.cells #[.int .i64 0, .int .i64 1, .int .i64 0, .int .i64 0, .int .i64 0] 2)).alloc (.cells #[.int .i64 0, .int .i64 0, .int .i64 0, .int .i64 0, .int .i64 0] 2)).alloc (.cells #[.int .i64 0, .int .i64 0, .int .i64 0, .int .i64 0, .int .i64 0] 2)).alloc (.cells #[.int .i64 0, .int .i64 0, .int .i64 0, .int .i64 0, .int .i64 0] 2)).alloc (.cells #[.int .i64 0, .int .i64 0, .int .i64 0, .int .i64 0, .int .i64 0] 2)).alloc (.cells #[.slice (some ⟨w5.heap.size, 0, none⟩) 5 5, .slice (some ⟨w5.heap.size + 1, 0, none⟩) 5 5, .slice (some ⟨w5.heap.size + 1 + 1, 0, none⟩) 5 5, .slice (some ⟨w5.heap.size + 1 + 1 + 1, 0, none⟩) 5 5, .slice (some ⟨w5.heap.size + 1 + 1 + 1 + 1, 0, none⟩) 5 5] 35)).alloc (.cells #[.int .i64 1] 2))
    have hR0 := (((((((hR5.alloc (.cells #[.int .i64 0, .int .i64 1, .int .i64 0, .int .i64 0, .int .i64 0] 2)).alloc (.cells #[.int .i64 0, .int .i64 0, .int .i64 0, .int .i64 0, .int .i64 0] 2)).alloc (.cells #[.int .i64 0, .int .i64 0, .int .i64 0, .int .i64 0, .int .i64 0] 2)).alloc (.cells #[.int .i64 0, .int .i64 0, .int .i64 0, .int .i64 0, .int .i64 0] 2)).alloc (.cells #[.int .i64 0, .int .i64 0, .int .i64 0, .int .i64 0, .int .i64 0] 2)).alloc (.cells #[.slice (some ⟨w5.heap.size, 0, none⟩) 5 5, .slice (some ⟨w5.heap.size + 1, 0, none⟩) 5 5, .slice (some ⟨w5.heap.size + 1 + 1, 0, none⟩) 5 5, .slice (some ⟨w5.heap.size + 1 + 1 + 1, 0, none⟩) 5 5, .slice (some ⟨w5.heap.size + 1 + 1 + 1 + 1, 0, none⟩) 5 5] 35)).alloc (.cells #[.int .i64 1] 2))
    have hRa := (hR0.setne (a := ⟨w.heap.size, 0, none⟩) (by show w.heap.size + 1 ≠ w.heap.size; omega) (.slice a5 5 c5)).setne (a := ⟨w.heap.size, 1, none⟩) (by show w.heap.size + 1 ≠ w.heap.size; omega) (.slice a6 5 c6)
    have hfa := (((((((ho5.f.alloc (.cells #[.int .i64 0, .int .i64 1, .int .i64 0, .int .i64 0, .int .i64 0] 2)).alloc (.cells #[.int .i64 0, .int .i64 0, .int .i64 0, .int .i64 0, .int .i64 0] 2)).alloc (.cells #[.int .i64 0, .int .i64 0, .int .i64 0, .int .i64 0, .int .i64 0] 2)).alloc (.cells #[.int .i64 0, .int .i64 0, .int .i64 0, .int .i64 0, .int .i64 0] 2)).alloc (.cells #[.int .i64 0, .int .i64 0, .int .i64 0, .int .i64 0, .int .i64 0] 2)).alloc (.cells #[.slice (some ⟨w5.heap.size, 0, none⟩) 5 5, .slice (some ⟨w5.heap.size + 1, 0, none⟩) 5 5, .slice (some ⟨w5.heap.size + 1 + 1, 0, none⟩) 5 5, .slice (some ⟨w5.heap.size + 1 + 1 + 1, 0, none⟩) 5 5, .slice (some ⟨w5.heap.size + 1 + 1 + 1 + 1, 0, none⟩) 5 5] 35)).alloc (.cells #[.int .i64 1] 2))
    have hsa := (((((((ho5.s.alloc (.cells #[.int .i64 0, .int .i64 1, .int .i64 0, .int .i64 0, .int .i64 0] 2)).alloc (.cells #[.int .i64 0, .int .i64 0, .int .i64 0, .int .i64 0, .int .i64 0] 2)).alloc (.cells #[.int .i64 0, .int .i64 0, .int .i64 0, .int .i64 0, .int .i64 0] 2)).alloc (.cells #[.int .i64 0, .int .i64 0, .int .i64 0, .int .i64 0, .int .i64 0] 2)).alloc (.cells #[.int .i64 0, .int .i64 0, .int .i64 0, .int .i64 0, .int .i64 0] 2)).alloc (.cells #[.slice (some ⟨w5.heap.size, 0, none⟩) 5 5, .slice (some ⟨w5.heap.size + 1, 0, none⟩) 5 5, .slice (some ⟨w5.heap.size + 1 + 1, 0, none⟩) 5 5, .slice (some ⟨w5.heap.size + 1 + 1 + 1, 0, none⟩) 5 5, .slice (some ⟨w5.heap.size + 1 + 1 + 1 + 1, 0, none⟩) 5 5] 35)).alloc (.cells #[.int .i64 1] 2))
    have hBa := (below_al (below_al (below_al (below_al (below_al (below_al (below_al hB5 (.cells #[.int .i64 0, .int .i64 1, .int .i64 0, .int .i64 0, .int .i64 0] 2)) (.cells #[.int .i64 0, .int .i64 0, .int .i64 0, .int .i64 0, .int .i64 0] 2)) (.cells #[.int .i64 0, .int .i64 0, .int .i64 0, .int .i64 0, .int .i64 0] 2)) (.cells #[.int .i64 0, .int .i64 0, .int .i64 0, .int .i64 0, .int .i64 0] 2)) (.cells #[.int .i64 0, .int .i64 0, .int .i64 0, .int .i64 0, .int .i64 0] 2)) (.cells #[.slice (some ⟨w5.heap.size, 0, none⟩) 5 5, .slice (some ⟨w5.heap.size + 1, 0, none⟩) 5 5, .slice (some ⟨w5.heap.size + 1 + 1, 0, none⟩) 5 5, .slice (some ⟨w5.heap.size + 1 + 1 + 1, 0, none⟩) 5 5, .slice (some ⟨w5.heap.size + 1 + 1 + 1 + 1, 0, none⟩) 5 5] 35)) (.cells #[.int .i64 1] 2))
    have hlit := lit5 w5
    have hza : (((((((w5.alloc (.cells #[.int .i64 0, .int .i64 1, .int .i64 0, .int .i64 0, .int .i64 0] 2)).alloc (.cells #[.int .i64 0, .int .i64 0, .int .i64 0, .int .i64 0, .int .i64 0] 2)).alloc (.cells #[.int .i64 0, .int .i64 0, .int .i64 0, .int .i64 0, .int .i64 0] 2)).alloc (.cells #[.int .i64 0, .int .i64 0, .int .i64 0, .int .i64 0, .int .i64 0] 2)).alloc (.cells #[.int .i64 0, .int .i64 0, .int .i64 0, .int .i64 0, .int .i64 0] 2)).alloc (.cells #[.slice (some ⟨w5.heap.size, 0, none⟩) 5 5, .slice (some ⟨w5.heap.size + 1, 0, none⟩) 5 5, .slice (some ⟨w5.heap.size + 1 + 1, 0, none⟩) 5 5, .slice (some ⟨w5.heap.size + 1 + 1 + 1, 0, none⟩) 5 5, .slice (some ⟨w5.heap.size + 1 + 1 + 1 + 1, 0, none⟩) 5 5] 35)).alloc (.cells #[.int .i64 1] 2)).heap.size = w5.heap.size + 7 := by simp
    have lPa := hPa.two
    have lR0 := hR0.two
    have lRa := hRa.two
    go_wp2
    obtain ⟨V, hV⟩ : ∃ V, (((((((w5.alloc (.cells #[.int .i64 0, .int .i64 1, .int .i64 0, .int .i64 0, .int .i64 0] 2)).alloc (.cells #[.int .i64 0, .int .i64 0, .int .i64 0, .int .i64 0, .int .i64 0] 2)).alloc (.cells #[.int .i64 0, .int .i64 0, .int .i64 0, .int .i64 0, .int .i64 0] 2)).alloc (.cells #[.int .i64 0, .int .i64 0, .int .i64 0, .int .i64 0, .int .i64 0] 2)).alloc (.cells #[.int .i64 0, .int .i64 0, .int .i64 0, .int .i64 0, .int .i64 0] 2)).alloc (.cells #[.slice (some ⟨w5.heap.size, 0, none⟩) 5 5, .slice (some ⟨w5.heap.size + 1, 0, none⟩) 5 5, .slice (some ⟨w5.heap.size + 1 + 1, 0, none⟩) 5 5, .slice (some ⟨w5.heap.size + 1 + 1 + 1, 0, none⟩) 5 5, .slice (some ⟨w5.heap.size + 1 + 1 + 1 + 1, 0, none⟩) 5 5] 35)).alloc (.cells #[.int .i64 1] 2)) = V := ⟨_, rfl⟩
    rw [hV] at hPa hR0 hRa hfa hsa hBa lPa lR0 lRa hlit hza ⊢
    have hk4 : ∀ (u1 u2 u3 u4 : Value) (k : Nat), w5.heap.size ≤ k → ((((V.setCell ⟨w.heap.size, 0, none⟩ u1).setCell ⟨w.heap.size, 1, none⟩ u2).setCell ⟨w.heap.size + 1, 0, none⟩ u3).setCell ⟨w.heap.size + 1, 1, none⟩ u4).heap[k]? = V.heap[k]? := fun u1 u2 u3 u4 k hk =>
      ((((Below.heap_setCell _ _ _ _ (by show k ≠ w.heap.size + 1; omega)).trans (Below.heap_setCell _ _ _ _ (by show k ≠ w.heap.size + 1; omega))).trans (Below.heap_setCell _ _ _ _ (by show k ≠ w.heap.size; omega))).trans (Below.heap_setCell _ _ _ _ (by show k ≠ w.heap.size; omega)))
    obtain ⟨ht, hrw⟩ := hlit ((((V.setCell ⟨w.heap.size, 0, none⟩ (.slice a5 5 c5)).setCell ⟨w.heap.size, 1, none⟩ (.slice a6 5 c6)).setCell ⟨w.heap.size + 1, 0, none⟩ (.int .i64 6)).setCell ⟨w.heap.size + 1, 1, none⟩ (.slice (some ⟨w5.heap.size + 1 + 1 + 1 + 1 + 1 + 1, 0, none⟩) 1 1)) (by rw [size_set, size_set, size_set, size_set]; omega) (hk4 _ _ _ _)
    have hff := ((((hfa.setlo (p := ⟨w.heap.size, 0, none⟩) (by show w.heap.size < w4.heap.size; omega) (.slice a5 5 c5)).setlo (p := ⟨w.heap.size, 1, none⟩) (by show w.heap.size < w4.heap.size; omega) (.slice a6 5 c6)).setlo (p := ⟨w.heap.size + 1, 0, none⟩) (by show w.heap.size + 1 < w4.heap.size; omega) (.int .i64 6)).setlo (p := ⟨w.heap.size + 1, 1, none⟩) (by show w.heap.size + 1 < w4.heap.size; omega) (.slice (some ⟨w5.heap.size + 1 + 1 + 1 + 1 + 1 + 1, 0, none⟩) 1 1)).tbl
    have hss := ((((hsa.setlo (p := ⟨w.heap.size, 0, none⟩) (by show w.heap.size < w4.heap.size; omega) (.slice a5 5 c5)).setlo (p := ⟨w.heap.size, 1, none⟩) (by show w.heap.size < w4.heap.size; omega) (.slice a6 5 c6)).setlo (p := ⟨w.heap.size + 1, 0, none⟩) (by show w.heap.size + 1 < w4.heap.size; omega) (.int .i64 6)).setlo (p := ⟨w.heap.size + 1, 1, none⟩) (by show w.heap.size + 1 < w4.heap.size; omega) (.slice (some ⟨w5.heap.size + 1 + 1 + 1 + 1 + 1 + 1, 0, none⟩) 1 1)).tbl
    have hBf := below_setne (a := ⟨w.heap.size + 1, 1, none⟩) (below_setne (a := ⟨w.heap.size + 1, 0, none⟩) (below_setne (a := ⟨w.heap.size, 1, none⟩) (below_setne (a := ⟨w.heap.size, 0, none⟩) hBa (by show w.heap.size ≤ w.heap.size; omega) (.slice a5 5 c5)) (by show w.heap.size ≤ w.heap.size; omega) (.slice a6 5 c6)) (by show w.heap.size ≤ w.heap.size + 1; omega) (.int .i64 6)) (by show w.heap.size ≤ w.heap.size + 1; omega) (.slice (some ⟨w5.heap.size + 1 + 1 + 1 + 1 + 1 + 1, 0, none⟩) 1 1)
    exact bodyPost_ret (v := .tuple #[sAgg a5 5 c5 a6 5 c6, .int .i64 2, .slice (some ⟨w5.heap.size + 1 + 1 + 1 + 1 + 1, 0, none⟩) 5 5, bAgg 6 (some ⟨w5.heap.size + 1 + 1 + 1 + 1 + 1 + 1, 0, none⟩) 1 1]) (by simp [results, Tryz.results38, go_sem, lPa, lR0]) rfl
      ⟨a5, 5, c5, _, a6, 5, c6, _, 2, _, 5, 5, _, 6, _, 1, 1, [1], rfl, by omega, by omega, by omega, by omega, by omega, by omega, by omega, by omega, by omega, by omega, (fun x hx => by simp at hx; omega), hff, hss, ht, hrw, hBf⟩
  have xb : (x == 0) = false := by simpa using x0
  have lX4 := hX4.two
  have lP4 := hP4.two
  have lR4 := hR4.two
  have lQ4 := ((hR4.setne (a := ⟨w.heap.size, 0, none⟩) (by show w.heap.size + 1 ≠ w.heap.size; omega) (.slice a1 n1 c1)).setne (a := ⟨w.heap.size, 1, none⟩) (by show w.heap.size + 1 ≠ w.heap.size; omega) (.slice a2 n2 c2)).two
  have FIN : Hid (∀ (v : World) (S : Int) (ab : Option Addr) (nb cb : Nat) (ys : List Int), 0 ≤ S → S ≤ 10 → nb ≤ 31 → Sml ys → Own v (w.heap.size + 2) ab nb cb ys → TbR v w1.heap.size a1 n1 f → TbR v w1.heap.size a2 n2 g → TbR v w1.heap.size am nm F → Below w.heap.size w v →
      DrSs w (.returned (.tuple #[sAgg a1 n1 c1 a2 n2 c2, .int .i64 m, .slice am nm cm, bAgg S ab nb cb])) v) := Lib.hid fun v S ab nb cb ys q1 q2 q3 q4 q5 q6 q7 q8 q9 =>
    ⟨a1, n1, c1, f, a2, n2, c2, g, m, am, nm, cm, F, S, ab, nb, cb, ys, rfl, hn1, hn2, hnm, hm1, hm2, q1, q2, q3, q5.cap.1, q5.cap.2, q4, q6.1, q7.1, q8.1, q5.row, q9⟩
  go_upto_region 5 with fail
  go_region_held3 (fun v => v.cell? ⟨w2.heap.size, 0, none⟩ = some (.slice a1 n1 c1) ∧ v.cell? ⟨w2.heap.size, 1, none⟩ = some (.slice a2 n2 c2))
    (first | exact k11 | exact k10 | exact k9 | exact ⟨lX4.1, lX4.2.1⟩ | go_keep)
    (first
      | (go_at_call 108; refine (l18Braid_ok b _ (hs4.below (below_drewN (Below.refl _ _) 1))).mono ?_; rintro e w9 ⟨S, ab, nb, cb, ys, rfl, hS1, hS2, hnb, hsm, hob, hs9, hg9'⟩; have hg9 : w4.grownBy w9 (some b) := grown_trans (grown_of_below (below_drewN (Below.refl _ _) 1) (some b)) hg9'; have hX9 := hX4.grown hg9 (by simp; omega); have k9 := And.intro hX9.two.1 hX9.two.2.1; have hP9 := hP4.grown hg9 (by simp; omega); have lP9 := hP9.two; have hR9 := hR4.grown hg9 (by simp; omega); have lR9 := hR9.two;
         have hX10 := (hX9.setne (a := ⟨w.heap.size, 0, none⟩) (by show w2.heap.size ≠ w.heap.size; omega) (.slice a1 n1 c1)).setne (a := ⟨w.heap.size, 1, none⟩) (by show w2.heap.size ≠ w.heap.size; omega) (.slice a2 n2 c2); have k10 := And.intro hX10.two.1 hX10.two.2.1; have hR10 := (hR9.setne (a := ⟨w.heap.size, 0, none⟩) (by show w.heap.size + 1 ≠ w.heap.size; omega) (.slice a1 n1 c1)).setne (a := ⟨w.heap.size, 1, none⟩) (by show w.heap.size + 1 ≠ w.heap.size; omega) (.slice a2 n2 c2); have lR10 := hR10.two;
         have hX11 := (hX10.setne (a := ⟨w.heap.size + 1, 0, none⟩) (by show w2.heap.size ≠ w.heap.size + 1; omega) (.int .i64 S)).setne (a := ⟨w.heap.size + 1, 1, none⟩) (by show w2.heap.size ≠ w.heap.size + 1; omega) (.slice ab nb cb); have k11 := And.intro hX11.two.1 hX11.two.2.1))
  all_goals
    have hz9 := hg9.size
    have hB9 := below_grown hB4 hg9 (by omega)
    have hf9 := (((((hf4.grown hg9 hz1).setlo (p := ⟨w.heap.size, 0, none⟩) (by show w.heap.size < w1.heap.size; omega) (.slice a1 n1 c1)).setlo (p := ⟨w.heap.size, 1, none⟩) (by show w.heap.size < w1.heap.size; omega) (.slice a2 n2 c2)).setlo (p := ⟨w.heap.size + 1, 0, none⟩) (by show w.heap.size + 1 < w1.heap.size; omega) (.int .i64 S)).setlo (p := ⟨w.heap.size + 1, 1, none⟩) (by show w.heap.size + 1 < w1.heap.size; omega) (.slice ab nb cb))
    have hg9f := (((((hg4'.grown hg9 hz1).setlo (p := ⟨w.heap.size, 0, none⟩) (by show w.heap.size < w1.heap.size; omega) (.slice a1 n1 c1)).setlo (p := ⟨w.heap.size, 1, none⟩) (by show w.heap.size < w1.heap.size; omega) (.slice a2 n2 c2)).setlo (p := ⟨w.heap.size + 1, 0, none⟩) (by show w.heap.size + 1 < w1.heap.size; omega) (.int .i64 S)).setlo (p := ⟨w.heap.size + 1, 1, none⟩) (by show w.heap.size + 1 < w1.heap.size; omega) (.slice ab nb cb))
    have hF9 := (((((hF4.grown hg9 hz1).setlo (p := ⟨w.heap.size, 0, none⟩) (by show w.heap.size < w1.heap.size; omega) (.slice a1 n1 c1)).setlo (p := ⟨w.heap.size, 1, none⟩) (by show w.heap.size < w1.heap.size; omega) (.slice a2 n2 c2)).setlo (p := ⟨w.heap.size + 1, 0, none⟩) (by show w.heap.size + 1 < w1.heap.size; omega) (.int .i64 S)).setlo (p := ⟨w.heap.size + 1, 1, none⟩) (by show w.heap.size + 1 < w1.heap.size; omega) (.slice ab nb cb))
    have ho9 := ((((hob.mono (lo' := w.heap.size + 2) (by show w.heap.size + 2 ≤ w4.heap.size; omega)).setlo (p := ⟨w.heap.size, 0, none⟩) (by show w.heap.size < w.heap.size + 2; omega) (.slice a1 n1 c1)).setlo (p := ⟨w.heap.size, 1, none⟩) (by show w.heap.size < w.heap.size + 2; omega) (.slice a2 n2 c2)).setlo (p := ⟨w.heap.size + 1, 0, none⟩) (by show w.heap.size + 1 < w.heap.size + 2; omega) (.int .i64 S)).setlo (p := ⟨w.heap.size + 1, 1, none⟩) (by show w.heap.size + 1 < w.heap.size + 2; omega) (.slice ab nb cb)
    have hBf := below_setne (a := ⟨w.heap.size + 1, 1, none⟩) (below_setne (a := ⟨w.heap.size + 1, 0, none⟩) (below_setne (a := ⟨w.heap.size, 1, none⟩) (below_setne (a := ⟨w.heap.size, 0, none⟩) hB9 (by show w.heap.size ≤ w.heap.size; omega) (.slice a1 n1 c1)) (by show w.heap.size ≤ w.heap.size; omega) (.slice a2 n2 c2)) (by show w.heap.size ≤ w.heap.size + 1; omega) (.int .i64 S)) (by show w.heap.size ≤ w.heap.size + 1; omega) (.slice ab nb cb)
    have hW := FIN.out _ S ab nb cb ys hS1 hS2 hnb hsm ho9 hf9 hg9f hF9 hBf
    go_wp2
  all_goals exact bodyPost_ret (v := .tuple #[sAgg a1 n1 c1 a2 n2 c2, .int .i64 m, .slice am nm cm, bAgg S ab nb cb]) (by simp [results, Tryz.results38, go_sem, lP9, lR9]) rfl hW
end Go.Proofs.YtkjpkdmnjbjjaaaGreat
