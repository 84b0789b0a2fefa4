/-
  Walks and plain laws of this seat, some texts in one.
  No condition but bounds on lengths.
-/
import Derived.Test.YtkjpkdmnjbjjaaaGreatPq38
import Derived.Test.YtkjpkdmnjbjjaaaGreatPq28
import Derived.Test.YtkjpkdmnjbjjaaaGreatPq29
import Derived.Test.YtkjpkdmnjbjjaaaGreatPq17
namespace Go.Proofs.YtkjpkdmnjbjjaaaGreat
set_option maxRecDepth 100000
set_option linter.unusedVariables false
set_option linter.unusedSimpArgs false
open Go.RowKit
def AyD (b : Nat) (w : World) (e : Ending) (w' : World) : Prop :=
  ∃ (a : Option Addr) (n c : Nat) (f : List (List Int)) (a' : Option Addr) (n' c' : Nat) (g : List (List Int)) (m : Int) (am : Option Addr) (nm cm : Nat) (F : List (List Int)), e = .returned (.tuple #[sAgg a n c a' n' c', .int .i64 m, .slice am nm cm]) ∧ n ≤ 14 ∧ n' ≤ 14 ∧ nm ≤ 14 ∧ -2 ≤ m ∧ m ≤ 13 ∧
    TbR w' w.heap.size a n f ∧ TbR w' w.heap.size a' n' g ∧ TbR w' w.heap.size am nm F ∧ Src w' b ∧ w.grownBy w' (some b)
set_option maxHeartbeats 16000000 in
theorem l18DrawAny_ok (M b : Nat) (w : World) (h : Src w b) (h1 : 1 ≤ M) (hM : M ≤ 12) :
    Calls Tryz.prog 78 #[.pointer (some ⟨b, 0, none⟩), .int .i64 M] w (AyD b w) := by
  have hlt := h.lt
  have hR := Loc.new w rfl #[.slice none 0 0, .slice none 0 0] 26
  go_enter Tryz.func78, Tryz.ntmps78
  go_wp2_with fail
  refine (l02Spoil_ok M b _ (h.below (below_al (Below.refl _ _) _)) h1 hM).mono ?_
  rintro e w1 ⟨a1, n1, c1, vs1, f, a2, n2, c2, vs2, g, rfl, hn1, hn2, hf1, hg1', hs1, hg1⟩
  have hR1 := hR.grown hg1 (by simp; omega)
  have hG1 := grown_trans (World.grownBy_alloc w (.cells #[.slice none 0 0, .slice none 0 0] 26) (some b)) hg1
  have hz1 := hR1.lt
  obtain ⟨w2, hw2⟩ : ∃ w2, w1.alloc (.cells #[.slice a1 n1 c1, .slice a2 n2 c2] 26) = w2 := ⟨_, rfl⟩
  have hb2 : Below w1.heap.size w1 w2 := by rw [← hw2]; exact below_al (Below.refl _ _) _
  have hO2 : Loc w2 w1.heap.size #[.slice a1 n1 c1, .slice a2 n2 c2] 26 := by rw [← hw2]; exact Loc.new w1 rfl _ _
  have hR2 := hR1.below hb2 hz1
  have hs2 := hs1.below hb2
  have hG2 := grown_trans hG1 (grown_of_below hb2 (some b))
  have hf2 := (TbR.own (hf1.below hb2)).mono (lo' := w.heap.size + 1) (by simp)
  have hg2 := (TbR.own (hg1'.below hb2)).mono (lo' := w.heap.size + 1) (by simp)
  have HW2 := Lib.hid hw2
  have hOl := hO2.lt
  clear hw2 hf1 hg1' hR hR1 hG1 hs1 hg1
  go_wp2_with fail
  rw [HW2.out]
  refine (l01Next_ok b 3 _ hs2 ⟨by omega, by omega⟩).mono ?_
  rintro e w3 ⟨x, rfl, _, _, hs3, hg3⟩
  have hR3 := hR2.grown hg3 (by simp; omega)
  have hO3 := hO2.grown hg3 (by simp; omega)
  have hG3 := grown_trans hG2 hg3
  have hf3 := hf2.grown hg3 (by omega)
  have hg3' := hg2.grown hg3 (by omega)
  have hO3l := hO3.lt
  clear hR2 hO2 hG2 hs2 hb2 hg3 hf2 hg2
  go_upto_if 14 with fail
  go_cut [7] (fun s7 wx => ∃ (a : Option Addr) (n c : Nat) (f : List (List Int)) (a' : Option Addr) (n' c' : Nat) (g : List (List Int)), s7 = .pointer (some ⟨w1.heap.size, 0, none⟩) ∧ n ≤ 14 ∧ n' ≤ 14 ∧ Loc wx w1.heap.size #[.slice a n c, .slice a' n' c'] 26 ∧ Loc wx w.heap.size #[.slice none 0 0, .slice none 0 0] 26 ∧ TbR wx (w.heap.size + 1) a n f ∧ TbR wx (w.heap.size + 1) a' n' g ∧ Src wx b ∧ w.grownBy wx (some b) ∧ w1.heap.size < wx.heap.size)
  case first => as_aux_lemma =>
    by_cases x0 : x = 0
    · subst x0
      go_wp2_with fail
      refine (l03Draw_ok M b _ hs3 h1 hM).mono ?_
      rintro e w4 ⟨n4, a4, c4, vs4, t, h41, h4M, rfl, ho4, sq4, hs4, hg4⟩
      have hR4 := hR3.grown hg4 (by simp; omega)
      have hO4 := hO3.grown hg4 (by simp; omega)
      have hG4 := grown_trans hG3 hg4
      have hz4 := hg4.size
      go_wp2_with fail
      refine (l03Solution_any a4 n4 c4 t _ ho4.tbl sq4 h41 (by omega)).mono ?_
      rintro e w5 ⟨a5, c5, vs5, a6, c6, vs6, rfl, ho5, hb5⟩
      have hR5 := (hR4.below hb5 (by omega)).setne (a := ⟨w1.heap.size, 0, none⟩) (by show w.heap.size ≠ w1.heap.size; omega) (.slice a5 n4 c5)
      have hR6 := hR5.setne (a := ⟨w1.heap.size, 1, none⟩) (by show w.heap.size ≠ w1.heap.size; omega) (.slice a6 n4 c6)
      have hO5 := hO4.below hb5 (by omega)
      have hO6 := (hO5.set 0 (.slice a5 n4 c5)).set 1 (.slice a6 n4 c6)
      have lO5 := hO5.two
      have hz5 := hb5.size
      have hs6 := ((hs4.below hb5).setne (p := ⟨w1.heap.size, 0, none⟩) (by show b < w1.heap.size; omega) (.slice a5 n4 c5)).setne (p := ⟨w1.heap.size, 1, none⟩) (by show b < w1.heap.size; omega) (.slice a6 n4 c6)
      have hf6 := (((TbR.own ho5.f).setlo (p := ⟨w1.heap.size, 0, none⟩) (by show w1.heap.size < w4.heap.size; omega) (.slice a5 n4 c5)).setlo (p := ⟨w1.heap.size, 1, none⟩) (by show w1.heap.size < w4.heap.size; omega) (.slice a6 n4 c6)).mono (lo' := w.heap.size + 1) (by omega)
      have hg6 := (((TbR.own ho5.s).setlo (p := ⟨w1.heap.size, 0, none⟩) (by show w1.heap.size < w4.heap.size; omega) (.slice a5 n4 c5)).setlo (p := ⟨w1.heap.size, 1, none⟩) (by show w1.heap.size < w4.heap.size; omega) (.slice a6 n4 c6)).mono (lo' := w.heap.size + 1) (by omega)
      have hG6 := grown_set (p := ⟨w1.heap.size, 1, none⟩) (grown_set (p := ⟨w1.heap.size, 0, none⟩) (grown_trans hG4 (grown_of_below hb5 (some b))) (.inr (by show w.heap.size ≤ w1.heap.size; omega)) (.slice a5 n4 c5)) (.inr (by show w.heap.size ≤ w1.heap.size; omega)) (.slice a6 n4 c6)
      go_wp2
      go_meet
      exact ⟨a5, n4, c5, _, a6, n4, c6, _, rfl, by omega, by omega, hO6, hR6, hf6, hg6, hs6, hG6, by rw [size_set, size_set]; omega⟩
    · have xb : (x == 0) = false := by simpa using x0
      go_wp2
      go_meet
      exact ⟨a1, n1, c1, f, a2, n2, c2, g, rfl, hn1, hn2, hO3, hR3, hf3, hg3', hs3, hG3, hO3l⟩
  case rest =>
  obtain ⟨a, n, c, f, a', n', c', g, rfl, hn, hn', hO, hR, hf, hg, hs, hG, hzw⟩ := hcut
  clear hO3 hR3 hf3 hg3' hs3 hG3 hO3l hn1 hn2 hOl
  have lO := hO.two
  go_wp2_with fail
  refine (l18DrawModulus_ok b _ hs).mono ?_
  rintro e w4 ⟨m, rfl, hm1, hm2, hs4, hg4⟩
  have hR4 := hR.grown hg4 (by simp; omega)
  have hO4 := hO.grown hg4 (by simp; omega)
  have hG4 := grown_trans hG hg4
  have hf4 := hf.grown hg4 (by omega)
  have hg4' := hg.grown hg4 (by omega)
  have hz4 := hg4.size
  have lO4 := hO4.two
  clear hR hO hG hf hg hs lO hg4
  go_upto_region 5 with fail
  go_region_held3 (fun v => v.cell? ⟨w1.heap.size, 0, none⟩ = some (.slice a n c) ∧ v.cell? ⟨w1.heap.size, 1, none⟩ = some (.slice a' n' c'))
    (first | exact l7 | exact l5 | exact ⟨lO4.1, lO4.2.1⟩ | go_keep)
    (first
      | (go_at_call 156; refine (l18DrawMatrix_ok b (w.heap.size + 1) n n' m a a' c c' f g _ (hs4.below (below_drewN (Below.refl _ _) 1)) (by omega) (by show w.heap.size + 1 ≤ w4.heap.size; omega) (hf4.below (below_drewN (Below.refl _ _) 1)) (hg4'.below (below_drewN (Below.refl _ _) 1)) hn hn' ⟨hm1, hm2⟩).mono ?_; rintro e w5 ⟨am, nm, cm, F, rfl, hnm, hF5', _, hs5, hg5'⟩; have hg5 : w4.grownBy w5 (some b) := grown_trans (grown_of_below (below_drewN (Below.refl _ _) 1) (some b)) hg5'; have hF5 : TbR w5 (w.heap.size + 1) am nm F := hF5'.mono (by show w.heap.size + 1 ≤ w4.heap.size; omega); have hO5 := hO4.grown hg5 (by simp; omega); have l5 := And.intro hO5.two.1 hO5.two.2.1; have hR5 := hR4.grown hg5 (by simp; omega); have lR5 := hR5.two; have hO7 := (hO5.setne (a := ⟨w.heap.size, 0, none⟩) (by show w1.heap.size ≠ w.heap.size; omega) (.slice a n c)).setne (a := ⟨w.heap.size, 1, none⟩) (by show w1.heap.size ≠ w.heap.size; omega) (.slice a' n' c'); have l7 := And.intro hO7.two.1 hO7.two.2.1))
  all_goals
    have hf7 := ((hf4.grown hg5 (by omega)).setlo (p := ⟨w.heap.size, 0, none⟩) (by show w.heap.size < w.heap.size + 1; omega) (.slice a n c)).setlo (p := ⟨w.heap.size, 1, none⟩) (by show w.heap.size < w.heap.size + 1; omega) (.slice a' n' c')
    have hg7 := ((hg4'.grown hg5 (by omega)).setlo (p := ⟨w.heap.size, 0, none⟩) (by show w.heap.size < w.heap.size + 1; omega) (.slice a n c)).setlo (p := ⟨w.heap.size, 1, none⟩) (by show w.heap.size < w.heap.size + 1; omega) (.slice a' n' c')
    have hF7 := (hF5.setlo (p := ⟨w.heap.size, 0, none⟩) (by show w.heap.size < w.heap.size + 1; omega) (.slice a n c)).setlo (p := ⟨w.heap.size, 1, none⟩) (by show w.heap.size < w.heap.size + 1; omega) (.slice a' n' c')
    have hs7 := (hs5.setne (p := ⟨w.heap.size, 0, none⟩) (by show b < w.heap.size; omega) (.slice a n c)).setne (p := ⟨w.heap.size, 1, none⟩) (by show b < w.heap.size; omega) (.slice a' n' c')
    have hG7 := grown_set (p := ⟨w.heap.size, 1, none⟩) (grown_set (p := ⟨w.heap.size, 0, none⟩) (grown_trans hG4 hg5) (.inr (by simp)) (.slice a n c)) (.inr (by simp)) (.slice a' n' c')
    go_wp2
  all_goals
    exact bodyPost_ret (v := .tuple #[sAgg a n c a' n' c', .int .i64 m, .slice am nm cm]) (by simp [results, Tryz.results78, go_sem, lR5]) rfl ⟨a, n, c, f, a', n', c', g, m, am, nm, cm, F, rfl, hn, hn', hnm, hm1, hm2, hf7.mono (by omega), hg7.mono (by omega), hF7.mono (by omega), hs7, hG7⟩
end Go.Proofs.YtkjpkdmnjbjjaaaGreat

namespace Go.Proofs.YtkjpkdmnjbjjaaaGreat
set_option maxRecDepth 100000
set_option linter.unusedVariables false
set_option linter.unusedSimpArgs false
open Go.RowKit
/-! ### tables that are read, whose blocks lie from lo on and below hi -/
def TbH (w : World) (lo hi : Nat) (a : Option Addr) (n : Nat) (F : List (List Int)) : Prop :=
  Tbl w a n F ∧ hi ≤ w.heap.size ∧ ∀ w' : World, w.heap.size ≤ w'.heap.size → (∀ k, lo ≤ k → k < hi → w'.heap[k]? = w.heap[k]?) → Tbl w' a n F
theorem TbH.keep {w w' : World} {lo hi : Nat} {a : Option Addr} {n : Nat} {F : List (List Int)} (h : TbH w lo hi a n F) (hs : w.heap.size ≤ w'.heap.size) (hk : ∀ k, lo ≤ k → k < hi → w'.heap[k]? = w.heap[k]?) : TbH w' lo hi a n F :=
  ⟨h.2.2 w' hs hk, Nat.le_trans h.2.1 hs, fun w'' hs2 hk2 => h.2.2 w'' (Nat.le_trans hs hs2) fun k h1 h2 => (hk2 k h1 h2).trans (hk k h1 h2)⟩
theorem TbH.grown {w w' : World} {lo hi : Nat} {a : Option Addr} {n : Nat} {F : List (List Int)} {row : Option Nat} (h : TbH w lo hi a n F) (hg : w.grownBy w' row) (hr : ∀ q, row = some q → q < lo ∨ hi ≤ q) : TbH w' lo hi a n F :=
  h.keep hg.size fun k h1 h2 => hg.block k (Nat.lt_of_lt_of_le h2 h.2.1) (fun e => by have := hr k e.symm; omega)
theorem TbH.below {w w' : World} {lo hi : Nat} {a : Option Addr} {n : Nat} {F : List (List Int)} (h : TbH w lo hi a n F) (hb : Below w.heap.size w w') : TbH w' lo hi a n F :=
  h.keep hb.size fun k _ h2 => hb.block k (Nat.lt_of_lt_of_le h2 h.2.1)
theorem TbH.set {w : World} {lo hi : Nat} {a : Option Addr} {n : Nat} {F : List (List Int)} (h : TbH w lo hi a n F) {p : Addr} (hp : p.block < lo ∨ hi ≤ p.block) (u : Value) : TbH (w.setCell p u) lo hi a n F :=
  h.keep (by rw [size_set]; exact Nat.le_refl _) fun k h1 h2 => Below.heap_setCell _ _ _ _ (by omega)
end Go.Proofs.YtkjpkdmnjbjjaaaGreat
