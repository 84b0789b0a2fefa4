/-
  Walks and plain laws of this seat, some texts in one.
  No condition but bounds on lengths.
-/
import Derived.Test.YtpdgpgbgakinlaaGreatPb38
import Derived.Test.YtpdgpgbgakinlaaGreatPb33
import Derived.Test.YtpdgpgbgakinlaaGreatPb25
namespace Go.Proofs.YtpdgpgbgakinlaaGreat
set_option maxRecDepth 100000
set_option linter.unusedVariables false
set_option linter.unusedSimpArgs false
open Go.RowKit
def AyD (b : Nat) (w : World) (e : Ending) (w' : World) : Prop :=
  ∃ (a : Option Addr) (n c : Nat) (f : List (List Int)) (a' : Option Addr) (n' c' : Nat) (g : List (List Int)) (m : Int) (am : Option Addr) (nm cm : Nat) (F : List (List Int)), e = .returned (.tuple #[sAgg a n c a' n' c', .int .i64 m, .slice am nm cm]) ∧ n ≤ 14 ∧ n' ≤ 14 ∧ nm ≤ 14 ∧ -2 ≤ m ∧ m ≤ 13 ∧
    TbR w' w.heap.size a n f ∧ TbR w' w.heap.size a' n' g ∧ TbR w' w.heap.size am nm F ∧ Src w' b ∧ w.grownBy w' (some b)
set_option maxHeartbeats 16000000 in
theorem l18DrawAny_ok (M b : Nat) (w : World) (h : Src w b) (h1 : 1 ≤ M) (hM : M ≤ 12) :
    Calls Tryz.prog 34 #[.pointer (some ⟨b, 0, none⟩), .int .i64 M] w (AyD b w) := by
  have hlt := h.lt
  have hR := Loc.new w rfl #[.slice none 0 0, .slice none 0 0] 26
  go_enter Tryz.func34, Tryz.ntmps34
  go_wp2_with fail
  refine (l02Spoil_ok M b _ (h.below (below_al (Below.refl _ _) _)) h1 hM).mono ?_
  rintro e w1 ⟨a1, n1, c1, vs1, f, a2, n2, c2, vs2, g, rfl, hn1, hn2, hf1, hg1', hs1, hg1⟩
  have hR1 := hR.grown hg1 (by simp; omega)
  have hG1 := grown_trans (World.grownBy_alloc w (.cells #[.slice none 0 0, .slice none 0 0] 26) (some b)) hg1
  have hz1 := hR1.lt
  obtain ⟨w2, hw2⟩ : ∃ w2, w1.alloc (.cells #[.slice a1 n1 c1, .slice a2 n2 c2] 26) = w2 := ⟨_, rfl⟩
  have hb2 : Below w1.heap.size w1 w2 := by rw [← hw2]; exact below_al (Below.refl _ _) _
  have hO2 : Loc w2 w1.heap.size #[.slice a1 n1 c1, .slice a2 n2 c2] 26 := by rw [← hw2]; exact Loc.new w1 rfl _ _
  have hR2 := hR1.below hb2 hz1
  have hs2 := hs1.below hb2
  have hG2 := grown_trans hG1 (grown_of_below hb2 (some b))
  have hf2 := (TbR.own (hf1.below hb2)).mono (lo' := w.heap.size + 1) (by simp)
  have hg2 := (TbR.own (hg1'.below hb2)).mono (lo' := w.heap.size + 1) (by simp)
  have HW2 := Lib.hid hw2
  have hOl := hO2.lt
  clear hw2 hf1 hg1' hR hR1 hG1 hs1 hg1
  go_wp2_with fail
  rw [HW2.out]
  refine (l01Next_ok b 3 _ hs2 ⟨by omega, by omega⟩).mono ?_
  rintro e w3 ⟨x, rfl, _, _, hs3, hg3⟩
  have hR3 := hR2.grown hg3 (by simp; omega)
  have hO3 := hO2.grown hg3 (by simp; omega)
  have hG3 := grown_trans hG2 hg3
  have hf3 := hf2.grown hg3 (by omega)
  have hg3' := hg2.grown hg3 (by omega)
  have hO3l := hO3.lt
  clear hR2 hO2 hG2 hs2 hb2 hg3 hf2 hg2
  go_upto_if 14 with fail
  go_cut [7] (fun s7 wx => ∃ (a : Option Addr) (n c : Nat) (f : List (List Int)) (a' : Option Addr) (n' c' : Nat) (g : List (List Int)), s7 = .pointer (some ⟨w1.heap.size, 0, none⟩) ∧ n ≤ 14 ∧ n' ≤ 14 ∧ Loc wx w1.heap.size #[.slice a n c, .slice a' n' c'] 26 ∧ Loc wx w.heap.size #[.slice none 0 0, .slice none 0 0] 26 ∧ TbR wx (w.heap.size + 1) a n f ∧ TbR wx (w.heap.size + 1) a' n' g ∧ Src wx b ∧ w.grownBy wx (some b) ∧ w1.heap.size < wx.heap.size)
  case first => as_aux_lemma =>
    by_cases x0 : x = 0
    · subst x0
      go_wp2_with fail
      refine (l03Draw_ok M b _ hs3 h1 hM).mono ?_
      rintro e w4 ⟨n4, a4, c4, vs4, t, h41, h4M, rfl, ho4, sq4, hs4, hg4⟩
      have hR4 := hR3.grown hg4 (by simp; omega)
      have hO4 := hO3.grown hg4 (by simp; omega)
      have hG4 := grown_trans hG3 hg4
      have hz4 := hg4.size
      go_wp2_with fail
      refine (l03Solution_any a4 n4 c4 t _ ho4.tbl sq4 h41 (by omega)).mono ?_
      rintro e w5 ⟨a5, c5, vs5, a6, c6, vs6, rfl, ho5, hb5⟩
      have hR5 := (hR4.below hb5 (by omega)).setne (a := ⟨w1.heap.size, 0, none⟩) (by show w.heap.size ≠ w1.heap.size; omega) (.slice a5 n4 c5)
      have hR6 := hR5.setne (a := ⟨w1.heap.size, 1, none⟩) (by show w.heap.size ≠ w1.heap.size; omega) (.slice a6 n4 c6)
      have hO5 := hO4.below hb5 (by omega)
      have hO6 := (hO5.set 0 (.slice a5 n4 c5)).set 1 (.slice a6 n4 c6)
      have lO5 := hO5.two
      have hz5 := hb5.size
      have hs6 := ((hs4.below hb5).setne (p := ⟨w1.heap.size, 0, none⟩) (by show b < w1.heap.size; omega) (.slice a5 n4 c5)).setne (p := ⟨w1.heap.size, 1, none⟩) (by show b < w1.heap.size; omega) (.slice a6 n4 c6)
      have hf6 := (((TbR.own ho5.f).setlo (p := ⟨w1.heap.size, 0, none⟩) (by show w1.heap.size < w4.heap.size; omega) (.slice a5 n4 c5)).setlo (p := ⟨w1.heap.size, 1, none⟩) (by show w1.heap.size < w4.heap.size; omega) (.slice a6 n4 c6)).mono (lo' := w.heap.size + 1) (by omega)
      have hg6 := (((TbR.own ho5.s).setlo (p := ⟨w1.heap.size, 0, none⟩) (by show w1.heap.size < w4.heap.size; omega) (.slice a5 n4 c5)).setlo (p := ⟨w1.heap.size, 1, none⟩) (by show w1.heap.size < w4.heap.size; omega) (.slice a6 n4 c6)).mono (lo' := w.heap.size + 1) (by omega)
      have hG6 := grown_set (p := ⟨w1.heap.size, 1, none⟩) (grown_set (p := ⟨w1.heap.size, 0, none⟩) (grown_trans hG4 (grown_of_below hb5 (some b))) (.inr (by show w.heap.size ≤ w1.heap.size; omega)) (.slice a5 n4 c5)) (.inr (by show w.heap.size ≤ w1.heap.size; omega)) (.slice a6 n4 c6)
      go_wp2
      go_meet
      exact ⟨a5, n4, c5, _, a6, n4, c6, _, rfl, by omega, by omega, hO6, hR6, hf6, hg6, hs6, hG6, by rw [size_set, size_set]; omega⟩
    · have xb : (x == 0) = false := by simpa using x0
      go_wp2
      go_meet
      exact ⟨a1, n1, c1, f, a2, n2, c2, g, rfl, hn1, hn2, hO3, hR3, hf3, hg3', hs3, hG3, hO3l⟩
  case rest =>
  obtain ⟨a, n, c, f, a', n', c', g, rfl, hn, hn', hO, hR, hf, hg, hs, hG, hzw⟩ := hcut
  clear hO3 hR3 hf3 hg3' hs3 hG3 hO3l hn1 hn2 hOl
  have lO := hO.two
  go_wp2_with fail
  refine (l18DrawModulus_ok b _ hs).mono ?_
  rintro e w4 ⟨m, rfl, hm1, hm2, hs4, hg4⟩
  have hR4 := hR.grown hg4 (by simp; omega)
  have hO4 := hO.grown hg4 (by simp; omega)
  have hG4 := grown_trans hG hg4
  have hf4 := hf.grown hg4 (by omega)
  have hg4' := hg.grown hg4 (by omega)
  have hz4 := hg4.size
  have lO4 := hO4.two
  clear hR hO hG hf hg hs lO hg4
  go_upto_region 5 with fail
  go_region_held3 (fun v => v.cell? ⟨w1.heap.size, 0, none⟩ = some (.slice a n c) ∧ v.cell? ⟨w1.heap.size, 1, none⟩ = some (.slice a' n' c'))
    (first | exact l7 | exact l5 | exact ⟨lO4.1, lO4.2.1⟩ | go_keep)
    (first
      | (go_at_call 79; refine (l18DrawMatrix_ok b (w.heap.size + 1) n n' m a a' c c' f g _ (hs4.below (below_drewN (Below.refl _ _) 1)) (by omega) (by show w.heap.size + 1 ≤ w4.heap.size; omega) (hf4.below (below_drewN (Below.refl _ _) 1)) (hg4'.below (below_drewN (Below.refl _ _) 1)) hn hn' ⟨hm1, hm2⟩).mono ?_; rintro e w5 ⟨am, nm, cm, F, rfl, hnm, hF5', _, hs5, hg5'⟩; have hg5 : w4.grownBy w5 (some b) := grown_trans (grown_of_below (below_drewN (Below.refl _ _) 1) (some b)) hg5'; have hF5 : TbR w5 (w.heap.size + 1) am nm F := hF5'.mono (by show w.heap.size + 1 ≤ w4.heap.size; omega); have hO5 := hO4.grown hg5 (by simp; omega); have l5 := And.intro hO5.two.1 hO5.two.2.1; have hR5 := hR4.grown hg5 (by simp; omega); have lR5 := hR5.two; have hO7 := (hO5.setne (a := ⟨w.heap.size, 0, none⟩) (by show w1.heap.size ≠ w.heap.size; omega) (.slice a n c)).setne (a := ⟨w.heap.size, 1, none⟩) (by show w1.heap.size ≠ w.heap.size; omega) (.slice a' n' c'); have l7 := And.intro hO7.two.1 hO7.two.2.1))
  all_goals
    have hf7 := ((hf4.grown hg5 (by omega)).setlo (p := ⟨w.heap.size, 0, none⟩) (by show w.heap.size < w.heap.size + 1; omega) (.slice a n c)).setlo (p := ⟨w.heap.size, 1, none⟩) (by show w.heap.size < w.heap.size + 1; omega) (.slice a' n' c')
    have hg7 := ((hg4'.grown hg5 (by omega)).setlo (p := ⟨w.heap.size, 0, none⟩) (by show w.heap.size < w.heap.size + 1; omega) (.slice a n c)).setlo (p := ⟨w.heap.size, 1, none⟩) (by show w.heap.size < w.heap.size + 1; omega) (.slice a' n' c')
    have hF7 := (hF5.setlo (p := ⟨w.heap.size, 0, none⟩) (by show w.heap.size < w.heap.size + 1; omega) (.slice a n c)).setlo (p := ⟨w.heap.size, 1, none⟩) (by show w.heap.size < w.heap.size + 1; omega) (.slice a' n' c')
    have hs7 := (hs5.setne (p := ⟨w.heap.size, 0, none⟩) (by show b < w.heap.size; omega) (.slice a n c)).setne (p := ⟨w.heap.size, 1, none⟩) (by show b < w.heap.size; omega) (.slice a' n' c')
    have hG7 := grown_set (p := ⟨w.heap.size, 1, none⟩) (grown_set (p := ⟨w.heap.size, 0, none⟩) (grown_trans hG4 hg5) (.inr (by simp)) (.slice a n c)) (.inr (by simp)) (.slice a' n' c')
    go_wp2
  all_goals
    exact bodyPost_ret (v := .tuple #[sAgg a n c a' n' c', .int .i64 m, .slice am nm cm]) (by simp [results, Tryz.results34, go_sem, lR5]) rfl ⟨a, n, c, f, a', n', c', g, m, am, nm, cm, F, rfl, hn, hn', hnm, hm1, hm2, hf7.mono (by omega), hg7.mono (by omega), hF7.mono (by omega), hs7, hG7⟩
set_option maxHeartbeats 2000000 in
theorem l09Size_any (a a' : Option Addr) (n c n' c' : Nat) (w : World) (hn : n ≤ 14) :
    Calls Tryz.prog 38 #[sAgg a n c a' n' c'] w fun e w' => ∃ K : Nat, e = .returned (.int .i64 K) ∧ 1 ≤ K ∧ K ≤ 14 ∧ Below w.heap.size w w' := by
  have lA := (Loc.new w rfl #[.slice a n c, .slice a' n' c'] 26).two
  have hB := below_al (Below.refl w.heap.size w) (.cells #[.slice a n c, .slice a' n' c'] 26)
  by_cases n0 : n = 0
  · subst n0
    go_enter Tryz.func38, Tryz.ntmps38
    go_wp2
    go_ret
    exact ⟨1, rfl, by omega, by omega, hB⟩
  · have nb : ((n : Int) == 0) = false := by simpa using n0
    go_enter Tryz.func38, Tryz.ntmps38
    go_wp2
    go_ret
    exact ⟨n, rfl, by omega, hn, hB⟩
end Go.Proofs.YtpdgpgbgakinlaaGreat

namespace Go.Proofs.YtpdgpgbgakinlaaGreat
set_option maxRecDepth 100000
set_option linter.unusedVariables false
set_option linter.unusedSimpArgs false
open Go.RowKit
/-! ### tables that are read, whose blocks lie from lo on and below hi -/
def TbH (w : World) (lo hi : Nat) (a : Option Addr) (n : Nat) (F : List (List Int)) : Prop :=
  Tbl w a n F ∧ hi ≤ w.heap.size ∧ ∀ w' : World, w.heap.size ≤ w'.heap.size → (∀ k, lo ≤ k → k < hi → w'.heap[k]? = w.heap[k]?) → Tbl w' a n F
theorem TbR.toH {w : World} {lo : Nat} {a : Option Addr} {n : Nat} {F : List (List Int)} (h : TbR w lo a n F) : TbH w lo w.heap.size a n F := ⟨h.1, Nat.le_refl _, h.2⟩
theorem TbH.keep {w w' : World} {lo hi : Nat} {a : Option Addr} {n : Nat} {F : List (List Int)} (h : TbH w lo hi a n F) (hs : w.heap.size ≤ w'.heap.size) (hk : ∀ k, lo ≤ k → k < hi → w'.heap[k]? = w.heap[k]?) : TbH w' lo hi a n F :=
  ⟨h.2.2 w' hs hk, Nat.le_trans h.2.1 hs, fun w'' hs2 hk2 => h.2.2 w'' (Nat.le_trans hs hs2) fun k h1 h2 => (hk2 k h1 h2).trans (hk k h1 h2)⟩
theorem TbH.grown {w w' : World} {lo hi : Nat} {a : Option Addr} {n : Nat} {F : List (List Int)} {row : Option Nat} (h : TbH w lo hi a n F) (hg : w.grownBy w' row) (hr : ∀ q, row = some q → q < lo ∨ hi ≤ q) : TbH w' lo hi a n F :=
  h.keep hg.size fun k h1 h2 => hg.block k (Nat.lt_of_lt_of_le h2 h.2.1) (fun e => by have := hr k e.symm; omega)
theorem TbH.below {w w' : World} {lo hi : Nat} {a : Option Addr} {n : Nat} {F : List (List Int)} (h : TbH w lo hi a n F) (hb : Below w.heap.size w w') : TbH w' lo hi a n F :=
  h.keep hb.size fun k _ h2 => hb.block k (Nat.lt_of_lt_of_le h2 h.2.1)
theorem TbH.set {w : World} {lo hi : Nat} {a : Option Addr} {n : Nat} {F : List (List Int)} (h : TbH w lo hi a n F) {p : Addr} (hp : p.block < lo ∨ hi ≤ p.block) (u : Value) : TbH (w.setCell p u) lo hi a n F :=
  h.keep (by rw [size_set]; exact Nat.le_refl _) fun k h1 h2 => Below.heap_setCell _ _ _ _ (by omega)
def DrWt (w : World) (e : Ending) (w' : World) : Prop :=
  ∃ (a : Option Addr) (n c : Nat) (f : List (List Int)) (a' : Option Addr) (n' c' : Nat) (g : List (List Int)) (m : Int) (am : Option Addr) (nm cm : Nat) (F : List (List Int)) (S : Int) (ab : Option Addr) (nb cb : Nat) (xs : List Int) (al : Option Addr) (k cl : Nat) (l : List Int),
    e = .returned (.tuple #[sAgg a n c a' n' c', .int .i64 m, .slice am nm cm, bAgg S ab nb cb, .slice al k cl]) ∧ n ≤ 14 ∧ n' ≤ 14 ∧ nm ≤ 14 ∧ -2 ≤ m ∧ m ≤ 13 ∧ 0 ≤ S ∧ S ≤ 10 ∧ nb ≤ 31 ∧ nb ≤ cb ∧ cb ≤ 9223372036854775807 ∧ k ≤ 11 ∧ Sml xs ∧ (∀ x ∈ l, -1 ≤ x ∧ x ≤ 14) ∧
    Tbl w' a n f ∧ Tbl w' a' n' g ∧ Tbl w' am nm F ∧ Own w' w.heap.size ab nb cb xs ∧ Row w' al k l ∧ Below w.heap.size w w'
set_option maxHeartbeats 16000000 in
theorem DrawWeightOfTuple_ok (a : Option Addr) (n c : Nat) (xs : List Int) (w : World) (h : Bts w a n xs) (hn : n ≤ 9223372036854775807) :
    Calls Tryz.prog 7 #[.slice a n c] w (DrWt w) := by
  go_enter Tryz.func7, Tryz.ntmps7
  have hP := (Loc.new w rfl #[.slice none 0 0, .slice none 0 0] 26).alloc (.cells #[.int .i64 0, .slice none 0 0] 29)
  have hR := Loc.new (w.alloc (.cells #[.slice none 0 0, .slice none 0 0] 26)) rfl #[.int .i64 0, .slice none 0 0] 29
  have hB0 := below_al (below_al (Below.refl w.heap.size w) (.cells #[.slice none 0 0, .slice none 0 0] 26)) (.cells #[.int .i64 0, .slice none 0 0] 29)
  rw [size_alloc] at hR
  go_wp2_with fail
  refine (l01From_ok a n c xs _ (h.below hB0) hn).mono ?_
  rintro e w1 ⟨b, rfl, hb, hs1, hb1⟩
  have hP1 := hP.below hb1 hP.lt
  have hR1 := hR.below hb1 hR.lt
  have hB1 := below_th hB0 hb1
  rw [size_alloc, size_alloc] at hb
  have hz1 := hs1.lt
  clear hP hR hB0 hb1
  go_wp2_with fail
  refine (l18DrawAny_ok 6 b _ hs1 (by omega) (by omega)).mono ?_
  rintro e w2 ⟨a1, n1, c1, f, a2, n2, c2, g, m, am, nm, cm, F, rfl, hn1, hn2, hnm, hm1, hm2, hf2, hg2', hF2, hs2, hg2⟩
  have hP2 := hP1.grown hg2 (by simp; omega)
  have hR2 := hR1.grown hg2 (by simp; omega)
  have hB2 := below_grown hB1 hg2 (by omega)
  have hz2 := hg2.size
  obtain ⟨w3, hw3⟩ : ∃ w3, w2.alloc (.cells #[.slice a1 n1 c1, .slice a2 n2 c2] 26) = w3 := ⟨_, rfl⟩
  have hb3 : Below w2.heap.size w2 w3 := by rw [← hw3]; exact below_al (Below.refl _ _) _
  have hX3 : Loc w3 w2.heap.size #[.slice a1 n1 c1, .slice a2 n2 c2] 26 := by rw [← hw3]; exact Loc.new w2 rfl _ _
  have hP3 := hP2.below hb3 hP2.lt
  have hR3 := hR2.below hb3 hR2.lt
  have hB3 := below_th hB2 hb3
  have hs3 := hs2.below hb3
  have hf3 := hf2.below hb3
  have hg3' := hg2'.below hb3
  have hF3 := hF2.below hb3
  have hz3 := hX3.lt
  have HW3 := Lib.hid hw3
  clear hP1 hR1 hB1 hs1 hP2 hR2 hB2 hs2 hf2 hg2' hF2 hg2 hb3 hw3
  go_wp2_with fail
  try rw [HW3.out]
  refine (l01Next_ok b 5 _ hs3 ⟨by omega, by omega⟩).mono ?_
  rintro e w4 ⟨x, rfl, _, hx, hs4, hg4⟩
  obtain ⟨hx1, hx2⟩ := hx (by omega)
  obtain ⟨K, hK⟩ : ∃ K : Nat, 2 + x = K := ⟨(2 + x).toNat, by omega⟩
  have hwK : IntKind.i64.wrap (2 + x) = (K : Int) := by rw [hK]; exact IntWalk.i64_in _ (by omega)
  have hKb : 2 ≤ K ∧ K ≤ 10 := by omega
  have hP4 := hP3.grown hg4 (by simp; omega)
  have hR4 := hR3.grown hg4 (by simp; omega)
  have hX4 := hX3.grown hg4 (by simp; omega)
  have hB4 := below_grown hB3 hg4 (by omega)
  have hf4 := hf3.grown hg4 hz1
  have hg4' := hg3'.grown hg4 hz1
  have hF4 := hF3.grown hg4 hz1
  have hz4 := hg4.size
  clear hK hx hP3 hR3 hX3 hB3 hs3 hf3 hg3' hF3 hg4
  go_wp2_with fail
  refine (l16DrawAny_ok b K 12 _ hs4 hKb.1 hKb.2 (by omega)).mono ?_
  rintro e w5 ⟨S, ab, nb, cb, ys, rfl, hS1, hS2, hnb, hsm, hob, hs5, hg5⟩
  have hP5 := hP4.grown hg5 (by simp; omega)
  have hR5 := hR4.grown hg5 (by simp; omega)
  have hX5 := hX4.grown hg5 (by simp; omega)
  have hB5 := below_grown hB4 hg5 (by omega)
  have hf5 := hf4.grown hg5 hz1
  have hg5' := hg4'.grown hg5 hz1
  have hF5 := hF4.grown hg5 hz1
  have hz5 := hg5.size
  obtain ⟨w6, hw6⟩ : ∃ w6, w5.alloc (.cells #[.int .i64 S, .slice ab nb cb] 29) = w6 := ⟨_, rfl⟩
  have hb6 : Below w5.heap.size w5 w6 := by rw [← hw6]; exact below_al (Below.refl _ _) _
  have hY6 : Loc w6 w5.heap.size #[.int .i64 S, .slice ab nb cb] 29 := by rw [← hw6]; exact Loc.new w5 rfl _ _
  have hP6 := hP5.below hb6 hP5.lt
  have hR6 := hR5.below hb6 hR5.lt
  have hX6 := hX5.below hb6 hX5.lt
  have hB6 := below_th hB5 hb6
  have hs6 := hs5.below hb6
  have hf6 := (hf5.below hb6).toH
  have hg6' := (hg5'.below hb6).toH
  have hF6 := (hF5.below hb6).toH
  have HAB := Lib.hid hob.hi
  have ho6 := (hob.below hb6).mono (lo' := w1.heap.size) (by omega)
  have hz6 := hY6.lt
  have HW6 := Lib.hid hw6
  clear hP4 hR4 hX4 hB4 hs4 hf4 hg4' hF4 hP5 hR5 hX5 hB5 hs5 hf5 hg5' hF5 hg5 hb6 hw6 hob
  obtain ⟨N, rfl⟩ : ∃ N : Nat, S = N := ⟨S.toNat, by omega⟩
  have lX6 := hX6.two
  have lY6 := hY6.two
  have tok1 : True := trivial
  go_upto_region 4 with fail
  try rw [HW6.out]
  go_region_held3 (fun v => v.cell? ⟨w2.heap.size, 0, none⟩ = some (.slice a1 n1 c1) ∧ v.cell? ⟨w2.heap.size, 1, none⟩ = some (.slice a2 n2 c2) ∧ v.cell? ⟨w5.heap.size, 0, none⟩ = some (.int .i64 N))
    (first | exact k8 | exact k7 | exact ⟨lX6.1, lX6.2.1, lY6.1⟩ | go_keep)
    (first
      | (go_at_call 38; refine (l09Size_any a1 a2 n1 c1 n2 c2 _ hn1).mono ?_; rintro e w7 ⟨D, rfl, hD1, hD2, hb7'⟩; have hb7 : Below w6.heap.size w6 w7 := (below_drewN (Below.refl w6.heap.size w6) 1).trans hb7'; have hX7 := hX6.below hb7 hX6.lt; have hY7 := hY6.below hb7 hY6.lt; have k7 : w7.cell? ⟨w2.heap.size, 0, none⟩ = some (.slice a1 n1 c1) ∧ w7.cell? ⟨w2.heap.size, 1, none⟩ = some (.slice a2 n2 c2) ∧ w7.cell? ⟨w5.heap.size, 0, none⟩ = some (.int .i64 N) := ⟨hX7.two.1, hX7.two.2.1, hY7.two.1⟩)
      | (go_at_call 37; refine (l14DrawList_ok b N (D : Int) _ (hs6.below hb7) ⟨by omega, by omega⟩ (by omega)).mono ?_; rintro e w8 ⟨al, cl, l, rfl, hl, _, hol, hs8, hg8⟩; have hX8 := hX7.grown hg8 (by simp; omega); have hY8 := hY7.grown hg8 (by simp; omega); have k8 : w8.cell? ⟨w2.heap.size, 0, none⟩ = some (.slice a1 n1 c1) ∧ w8.cell? ⟨w2.heap.size, 1, none⟩ = some (.slice a2 n2 c2) ∧ w8.cell? ⟨w5.heap.size, 0, none⟩ = some (.int .i64 N) := ⟨hX8.two.1, hX8.two.2.1, hY8.two.1⟩))
  all_goals
    have hz7 := hb7.size
    have hz8 := hg8.size
    have hP8 := (hP6.below hb7 hP6.lt).grown hg8 (by simp; omega)
    have hR8 := (hR6.below hb7 hR6.lt).grown hg8 (by simp; omega)
    have hB8 := below_grown (below_th hB6 hb7) hg8 (by omega)
    have hqb : ∀ q, some b = some q → q < w1.heap.size ∨ w6.heap.size ≤ q := fun q e => by cases e; exact .inl hz1
    have hf8 := (hf6.below hb7).grown hg8 hqb
    have hg8' := (hg6'.below hb7).grown hg8 hqb
    have hF8 := (hF6.below hb7).grown hg8 hqb
    have ho8 := (ho6.below hb7).grown hg8 (fun g e => by have := ho6.lo g e; simp; omega)
    have hlb : ∀ x ∈ l, -1 ≤ x ∧ x ≤ 14 := fun x hx => by have := hl (by omega) x hx; omega
    have HL := Lib.hid hlb
    have hol8 := hol
    clear hl hlb tok1 hP6 hR6 hB6 hf6 hg6' hF6 ho6 hX6 hX7 hY6 hY7 hs6 hg8 hb7 lX6 lY6 k7 k8
    have FIN : Hid (∀ (V : World) (al' : Option Addr) (k' cl' : Nat) (l' : List Int), Loc V w2.heap.size #[.slice a1 n1 c1, .slice a2 n2 c2] 26 → Loc V w5.heap.size #[.int .i64 N, .slice ab nb cb] 29 → k' ≤ 11 → (∀ x ∈ l', -1 ≤ x ∧ x ≤ 14) → TbH V w1.heap.size w6.heap.size a1 n1 f → TbH V w1.heap.size w6.heap.size a2 n2 g → TbH V w1.heap.size w6.heap.size am nm F → Own V w1.heap.size ab nb cb ys → Own V w1.heap.size al' k' cl' l' → Below w.heap.size w V →
        DrWt w (.returned (.tuple #[sAgg a1 n1 c1 a2 n2 c2, .int .i64 m, .slice am nm cm, bAgg N ab nb cb, .slice al' k' cl'])) ((((V.drew.setCell ⟨w.heap.size, 0, none⟩ (.slice a1 n1 c1)).setCell ⟨w.heap.size, 1, none⟩ (.slice a2 n2 c2)).setCell ⟨w.heap.size + 1, 0, none⟩ (.int .i64 N)).setCell ⟨w.heap.size + 1, 1, none⟩ (.slice ab nb cb))) := Lib.hid fun V al' k' cl' l' _ _ hk' hl' h1 h2 h3 h4 h5 hB =>
      ⟨a1, n1, c1, f, a2, n2, c2, g, m, am, nm, cm, F, N, ab, nb, cb, ys, al', k', cl', l', rfl, hn1, hn2, hnm, hm1, hm2, by omega, by omega, hnb, h4.cap.1, h4.cap.2, hk', hsm, hl',
        ((((h1.below (below_drewN (Below.refl _ _) 1)).set (.inl (by show w.heap.size < w1.heap.size; omega)) _).set (.inl (by show w.heap.size < w1.heap.size; omega)) _).set (.inl (by show w.heap.size + 1 < w1.heap.size; omega)) _).set (.inl (by show w.heap.size + 1 < w1.heap.size; omega)) _ |>.1,
        ((((h2.below (below_drewN (Below.refl _ _) 1)).set (.inl (by show w.heap.size < w1.heap.size; omega)) _).set (.inl (by show w.heap.size < w1.heap.size; omega)) _).set (.inl (by show w.heap.size + 1 < w1.heap.size; omega)) _).set (.inl (by show w.heap.size + 1 < w1.heap.size; omega)) _ |>.1,
        ((((h3.below (below_drewN (Below.refl _ _) 1)).set (.inl (by show w.heap.size < w1.heap.size; omega)) _).set (.inl (by show w.heap.size < w1.heap.size; omega)) _).set (.inl (by show w.heap.size + 1 < w1.heap.size; omega)) _).set (.inl (by show w.heap.size + 1 < w1.heap.size; omega)) _ |>.1,
        (((((h4.drewN 1).setlo (by show w.heap.size < w1.heap.size; omega) _).setlo (by show w.heap.size < w1.heap.size; omega) _).setlo (by show w.heap.size + 1 < w1.heap.size; omega) _).setlo (by show w.heap.size + 1 < w1.heap.size; omega) _).mono (by omega),
        (((((h5.drewN 1).setlo (by show w.heap.size < w1.heap.size; omega) _).setlo (by show w.heap.size < w1.heap.size; omega) _).setlo (by show w.heap.size + 1 < w1.heap.size; omega) _).setlo (by show w.heap.size + 1 < w1.heap.size; omega) _).row,
        ((((below_drewN hB 1).setCell (by simp) _).setCell (by simp) _).setCell (by simp) _).setCell (by simp) _⟩
    go_wp2_with fail
    refine (l01Next_ok b 24 _ hs8 ⟨by omega, by omega⟩).mono ?_
    rintro e w9 ⟨y, rfl, _, _, hs9, hg9⟩
    have hP9 := hP8.grown hg9 (by simp; omega)
    have hR9 := hR8.grown hg9 (by simp; omega)
    have hX9 := hX8.grown hg9 (by simp; omega)
    have hY9 := hY8.grown hg9 (by simp; omega)
    have hB9 := below_grown hB8 hg9 (by omega)
    have hf9 := hf8.grown hg9 hqb
    have hg9' := hg8'.grown hg9 hqb
    have hF9 := hF8.grown hg9 hqb
    have ho9 := ho8.grown hg9 (fun g e => by have := ho8.lo g e; simp; omega)
    have hol9 := (hol8.grown hg9 (fun g e => by have := hol8.lo g e; simp; omega)).mono (lo' := w1.heap.size) (by omega)
    have hal9 : Hid (∀ g, al = some ⟨g, 0, none⟩ → w7.heap.size ≤ g) := Lib.hid hol8.lo
    have hz9 := hg9.size
    have hk11 : N ≤ 10 := by omega
    clear hP8 hR8 hX8 hY8 hB8 hf8 hg8' hF8 ho8 hol8 hol hs8 hg9
    by_cases y0 : y = 0
    · subst y0
      have hne : ∀ q, (Value.slice al N cl).ownBlock = some q → w7.heap.size ≤ q := fun q e => by
        rcases hol9.block with ⟨r1, _⟩ | ⟨g2, cur, r1, _⟩
        · subst r1; simp [Value.ownBlock] at e
        · subst r1; simp [Value.ownBlock] at e; subst e; exact hal9.out _ rfl
      have HNE := Lib.hid hne
      clear hne
      go_wp2_with (at_builtin; refine app1 rfl rfl hol9 rfl rfl (by omega) (by omega) ?_; intro g' cc v9 hO8 hg8 hs8 hb8; have hX10 := hX9.grown hg8 (fun e => by have := HNE.out _ e.symm; omega); have hY10 := hY9.grown hg8 (fun e => by have := HNE.out _ e.symm; omega); have hP10 := hP9.below hb8 (by omega); have hR10 := hR9.below hb8 (by omega); have lX := hX10.two; have lY := hY10.two; have lP := hP10.two; have lR := hR10.two)
      have hq7 : ∀ q, (Value.slice al N cl).ownBlock = some q → q < w1.heap.size ∨ w6.heap.size ≤ q := fun q e => by have := HNE.out q e; omega
      have hl9 : ∀ x ∈ l ++ [(0 : Int)], -1 ≤ x ∧ x ≤ 14 := fun x hx => by
        rcases List.mem_append.1 hx with q | q
        · exact HL.out x q
        · rw [List.mem_singleton.1 q]; omega
      have hW := FIN.out v9 _ _ cc _ hX10 hY10 (by omega) hl9 (hf9.grown hg8 hq7) (hg9'.grown hg8 hq7) (hF9.grown hg8 hq7) (ho9.grown hg8 (fun g e q => by have h1 := HNE.out g q.symm; have h2 := HAB.out g e; omega)) hO8 (hB9.trans (hb8.mono (by omega)))
      go_region
      all_goals go_wp2
      all_goals exact bodyPost_ret (v := .tuple #[sAgg a1 n1 c1 a2 n2 c2, .int .i64 m, .slice am nm cm, bAgg N ab nb cb, .slice (some ⟨g', 0, none⟩) (N + 1) cc]) (by simp [results, Tryz.results7, go_sem, lP, lR]) rfl hW
    have y0b : (y == 0) = false := by simpa using y0
    by_cases y1 : y = 1
    · subst y1
      by_cases N0 : 0 < N
      · have N1 : (0 : Int) < (N : Int) := by omega
        obtain ⟨gt, rfl⟩ := hol9.headS N0
        have hgt := hal9.out gt rfl
        have lX := hX9.two
        go_wp2_with fail
        refine (l09Size_any a1 a2 n1 c1 n2 c2 _ hn1).mono ?_
        rintro e w10 ⟨D2, rfl, hD3, hD4, hb10⟩
        have hs10 := hs9.below hb10
        have hz10 := hb10.size
        have hbl := hs10.lt
        go_wp2_with fail
        refine (l01Pick_ok b _ _ _ [-1, (D2 : Int)] _ (hs10.below (below_al (Below.refl _ _) _)) (row_lit w10 _ _ [-1, (D2 : Int)] rfl) (by simp) (by simp) (fun g o e => by cases e; omega)).mono ?_
        rintro e w11 ⟨q, rfl, hq, hs11, hg11⟩
        have hq14 : -1 ≤ q ∧ q ≤ 14 := by simp at hq; omega
        have hb11 : Below w9.heap.size w9 (w10.alloc (.cells #[.int .i64 (-1), .int .i64 D2] 2)) := hb10.alloc hz10 _
        have hX11 := (hX9.below hb11 hX9.lt).grown hg11 (by simp; omega)
        have hY11 := (hY9.below hb11 hY9.lt).grown hg11 (by simp; omega)
        have hP11 := (hP9.below hb11 hP9.lt).grown hg11 (by simp; omega)
        have hR11 := (hR9.below hb11 hR9.lt).grown hg11 (by simp; omega)
        have hB11 := below_grown (below_th hB9 hb11) hg11 (by omega)
        have hf11 := (hf9.below hb11).grown hg11 hqb
        have hg11' := (hg9'.below hb11).grown hg11 hqb
        have hF11 := (hF9.below hb11).grown hg11 hqb
        have ho11 := (ho9.below hb11).grown hg11 (fun g e => by have := ho9.lo g e; simp; omega)
        have hol11 := (hol9.below hb11).grown hg11 (fun g e => by cases e; simp; omega)
        have d1 := hol11.cells.2.1 0 N0
        have k1 := hol11.cells.2.2 0
        have hl9 : ∀ x ∈ l.set 0 q, -1 ≤ x ∧ x ≤ 14 := fun x hx => by
          rcases List.mem_or_eq_of_mem_set hx with q | rfl
          · exact HL.out x q
          · exact hq14
        have hW := FIN.out _ _ _ cl _ (hX11.setne (a := ⟨gt, 0, none⟩) (by show w2.heap.size ≠ gt; omega) (.int .i64 q)) (hY11.setne (a := ⟨gt, 0, none⟩) (by show w5.heap.size ≠ gt; omega) (.int .i64 q)) (show N ≤ 11 by omega) hl9 (hf11.set (.inr (by show w6.heap.size ≤ gt; omega)) _) (hg11'.set (.inr (by show w6.heap.size ≤ gt; omega)) _) (hF11.set (.inr (by show w6.heap.size ≤ gt; omega)) _) (ho11.setne (fun g e => by have := HAB.out g e; show g ≠ gt; omega) _) (hol11.set 0 q) (hB11.setCell (by show w.heap.size ≤ gt; omega) _)
        have lX := (hX11.setne (a := ⟨gt, 0, none⟩) (by show w2.heap.size ≠ gt; omega) (.int .i64 q)).two
        have lY := (hY11.setne (a := ⟨gt, 0, none⟩) (by show w5.heap.size ≠ gt; omega) (.int .i64 q)).two
        have lP := (hP11.setne (a := ⟨gt, 0, none⟩) (by show w.heap.size ≠ gt; omega) (.int .i64 q)).two
        have lR := (hR11.setne (a := ⟨gt, 0, none⟩) (by show w.heap.size + 1 ≠ gt; omega) (.int .i64 q)).two
        clear hX11 hY11 hP11 hR11 hB11 hf11 hg11' hF11 ho11 hol11 hX9 hY9 hP9 hR9 hB9 hf9 hg9' hF9 ho9 hol9
        go_wp2
        go_region
        all_goals go_wp2
        all_goals exact bodyPost_ret (v := .tuple #[sAgg a1 n1 c1 a2 n2 c2, .int .i64 m, .slice am nm cm, bAgg N ab nb cb, .slice (some ⟨gt, 0, none⟩) N cl]) (by simp [results, Tryz.results7, go_sem, lP, lR]) rfl hW
      · have N1 : ¬ (0 : Int) < (N : Int) := by omega
        have lX := hX9.two
        have lY := hY9.two
        have lP := hP9.two
        have lR := hR9.two
        have hW := FIN.out w9 al N cl l hX9 hY9 (by omega) HL.out hf9 hg9' hF9 ho9 hol9 hB9
        go_wp2
        go_region
        all_goals go_wp2
        all_goals exact bodyPost_ret (v := .tuple #[sAgg a1 n1 c1 a2 n2 c2, .int .i64 m, .slice am nm cm, bAgg N ab nb cb, .slice al N cl]) (by simp [results, Tryz.results7, go_sem, lP, lR]) rfl hW
    have y1b : (y == 1) = false := by simpa using y1
    have lX := hX9.two
    have lY := hY9.two
    have lP := hP9.two
    have lR := hR9.two
    have hW := FIN.out w9 al N cl l hX9 hY9 (by omega) HL.out hf9 hg9' hF9 ho9 hol9 hB9
    go_wp2
    go_region
    all_goals go_wp2
    all_goals exact bodyPost_ret (v := .tuple #[sAgg a1 n1 c1 a2 n2 c2, .int .i64 m, .slice am nm cm, bAgg N ab nb cb, .slice al N cl]) (by simp [results, Tryz.results7, go_sem, lP, lR]) rfl hW
end Go.Proofs.YtpdgpgbgakinlaaGreat
