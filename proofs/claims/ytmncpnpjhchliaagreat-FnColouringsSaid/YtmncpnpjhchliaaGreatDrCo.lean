/-
  The reference's DrawColouringsOf and DrawCountColourings: a pair map and a braid that are read.
  No condition but bounds.
-/
import Derived.Test.YtmncpnpjhchliaaGreatPrDq
import Derived.Test.YtmncpnpjhchliaaGreatNamS
namespace Go.Proofs.YtmncpnpjhchliaaGreat
set_option linter.unusedVariables false
set_option linter.unusedSimpArgs false
set_option maxRecDepth 100000
open Go.RowKit

/-- a drawn pair map and a braid, out of a source -/
def DrK (b : Nat) (w : World) (e : Ending) (w' : World) : Prop :=
  ∃ (n : Nat) (a : Option Addr) (c : Nat) (vs : List SV) (f : List (List Int)) (a' : Option Addr) (c' : Nat) (vs' : List SV) (g : List (List Int)) (S : Int) (ab : Option Addr) (nb cb : Nat) (xs : List Int),
    1 ≤ n ∧ n ≤ 6 ∧ 0 ≤ S ∧ S ≤ 10 ∧ nb ≤ 31 ∧ Sml xs ∧ e = .returned (.tuple #[sAgg a n c a' n c', bAgg S ab nb cb]) ∧ OwnS w' w.heap.size a n c vs f a' n c' vs' g ∧ Own w' w.heap.size ab nb cb xs ∧ Src w' b ∧ w.grownBy w' (some b)

theorem sml_br {s : Int} {xs : List Int} (h : isBr s xs = true) : Sml xs := fun x hx => by
  obtain ⟨h1, _, h3⟩ := isBr_let h
  have := h3 x hx
  omega

set_option maxHeartbeats 32000000 in
theorem l17Draw_ok (b : Nat) (a : Option Addr) (n c : Nat) (xs : List Int) (w : World) (hs : Src w b) (h : Bts w a n xs) (hn : n ≤ 9223372036854775807) :
    Calls Tryz.prog 36 #[.pointer (some ⟨b, 0, none⟩), .slice a n c] w (DrK b w) := by
  have hlt := hs.lt
  have hP := (Loc.new w rfl #[.slice none 0 0, .slice none 0 0] 26).alloc (.cells #[.int .i64 0, .slice none 0 0] 29)
  have hR := Loc.new (w.alloc (.cells #[.slice none 0 0, .slice none 0 0] 26)) rfl #[.int .i64 0, .slice none 0 0] 29
  have hB0 := below_al (below_al (Below.refl w.heap.size w) (.cells #[.slice none 0 0, .slice none 0 0] 26)) (.cells #[.int .i64 0, .slice none 0 0] 29)
  rw [size_alloc] at hR
  have hs0 := hs.below hB0
  go_enter Tryz.func36, Tryz.ntmps36
  go_wp2_with fail
  refine (DrawDerivedRack_ok a n c xs _ (h.below hB0) hn).mono ?_
  rintro e w2 ⟨n2, a2, c2, vs2, f, a2', c2', vs2', g, n1, n6, rfl, ho2, hb2⟩
  have hzw2 := hb2.size
  have hP2 := hP.below hb2 hP.lt
  have hR2 := hR.below hb2 hR.lt
  have hB2 := below_th hB0 hb2
  have hs2 := hs0.below hb2
  have hz2 : w.heap.size + 2 ≤ w2.heap.size := by simp at hzw2; omega
  obtain ⟨w3, hw3⟩ : ∃ w3, w2.alloc (.cells #[.slice a2 n2 c2, .slice a2' n2 c2'] 26) = w3 := ⟨_, rfl⟩
  have hb3 : Below w2.heap.size w2 w3 := by rw [← hw3]; exact below_al (Below.refl _ _) _
  have hX3 : Loc w3 w2.heap.size #[.slice a2 n2 c2, .slice a2' n2 c2'] 26 := by rw [← hw3]; exact Loc.new w2 rfl _ _
  have hz3 : w2.heap.size + 1 ≤ w3.heap.size := hX3.lt
  have HW3 := Lib.hid hw3
  have hP3 := hP2.below hb3 hP2.lt
  have hR3 := hR2.below hb3 hR2.lt
  have hB3 := below_th hB2 hb3
  have hs3 := hs2.below hb3
  have ho3 := (ho2.mono (lo' := w.heap.size + 2) (by simp)).below hb3
  have lX3 := (Loc.new w2 rfl #[.slice a2 n2 c2, .slice a2' n2 c2'] 26).two
  clear hP hR hP2 hR2 hB0 hB2 hs hs0 hs2 ho2 hb2 hb3 hw3 hzw2
  obtain ⟨K, hK⟩ : ∃ K : Nat, K = if n2 < 4 then 4 else 3 := ⟨_, rfl⟩
  have hKb : 2 ≤ K ∧ K ≤ 10 := by rw [hK]; split <;> omega
  have hcase : (n2 < 4 ∧ K = 4) ∨ (¬ n2 < 4 ∧ K = 3) := by
    by_cases q : n2 < 4
    · exact .inl ⟨q, by rw [hK, if_pos q]⟩
    · exact .inr ⟨q, by rw [hK, if_neg q]⟩
  clear hK
  have qi : (n2 < 4 ∧ (n2 : Int) < 4 ∧ K = 4) ∨ (¬ n2 < 4 ∧ ¬ (n2 : Int) < 4 ∧ K = 3) := by omega
  have HC : Hid (∀ W, Src W b → Calls Tryz.prog 57 #[.pointer (some ⟨b, 0, none⟩), .int .i64 K, .int .i64 7] W (DrB b W 0 10 31)) := Lib.hid fun W hW => l16DrawAny_ok b K 7 W hW hKb.1 hKb.2 (by omega)
  clear hcase hKb
  have hRP : Hid (some w2.heap.size ≠ some b ∧ some w.heap.size ≠ some b ∧ some (w.heap.size + 1) ≠ some b) := Lib.hid (by simp; omega)
  rcases qi with ⟨q, qi, rfl⟩ | ⟨q, qi, rfl⟩
  all_goals
    go_wp2_with fail
    try rw [HW3.out]
    clear lX3
    refine (HC.out _ hs3).mono ?_
    rintro e w4 ⟨S, ab, nb, cb, ys, rfl, hS1, hS2, hnb, hsm, hob, hs4, hg4⟩
    have hP4 := hP3.grown hg4 hRP.out.2.1
    have hR4 := hR3.grown hg4 hRP.out.2.2
    have hX4 := hX3.grown hg4 hRP.out.1
    have hB4 : w.grownBy w4 (some b) := grown_trans (grown_of_below hB3 (some b)) hg4
    have ho4 := ho3.grownb hg4 (by omega)
    have hG4 := World.grownBy_alloc w4 (.cells #[.int .i64 S, .slice ab nb cb] 29) (some b)
    have hz4 := hg4.size
    obtain ⟨w5, hw5⟩ : ∃ w5, w4.alloc (.cells #[.int .i64 S, .slice ab nb cb] 29) = w5 := ⟨_, rfl⟩
    have hb5 : Below w4.heap.size w4 w5 := by rw [← hw5]; exact below_al (Below.refl _ _) _
    have hE5 : Loc w5 w4.heap.size #[.int .i64 S, .slice ab nb cb] 29 := by rw [← hw5]; exact Loc.new w4 rfl _ _
    have hz5 : w4.heap.size + 1 ≤ w5.heap.size := hE5.lt
    have HW5 := Lib.hid hw5
    rw [hw5] at hG4
    have hP5 := hP4.below hb5 hP4.lt
    have hR5 := hR4.below hb5 hR4.lt
    have hX5 := hX4.below hb5 hX4.lt
    have hB5 := grown_trans hB4 (grown_of_below hb5 (some b))
    have hs5 := hs4.below hb5
    have ho5 := ho4.below hb5
    have hob5 := (hob.mono (lo' := w.heap.size + 2) (by omega)).below hb5
    clear hw5 hP3 hP4 hR3 hR4 hX3 hX4 hB3 hB4 hs3 hs4 ho3 hob hb5 hg4
    go_wp2_with fail
    try rw [HW5.out]
    refine (l01Next_ok b 2 _ hs5 ⟨by omega, by omega⟩).mono ?_
    rintro e w6 ⟨x, rfl, _, hx, hs6, hg6⟩
    obtain ⟨hx1, hx2⟩ := hx (by omega)
    have hEb : some w4.heap.size ≠ some b := by simp; omega
    have hP6 := hP5.grown hg6 hRP.out.2.1
    have hR6 := hR5.grown hg6 hRP.out.2.2
    have hX6 := hX5.grown hg6 hRP.out.1
    have hE6 := hE5.grown hg6 hEb
    have hB6 := grown_trans hB5 hg6
    have ho6 := ho5.grownb hg6 (by omega)
    have hob6 := hob5.grown hg6 (fun g e => by have := hob5.lo g e; simp; omega)
    have hz6 := hg6.size
    have hG6 := grown_trans hG4 hg6
    clear hx hG4 hP5 hR5 hX5 hE5 hB5 ho5 hob5 hs5 hg6
    have hx3 : x = 1 ∨ x = 0 := by omega
    clear hx1 hx2
    have fin : ∀ (V V' : World) (S : Int) (ab : Option Addr) (nb cb : Nat) (ys : List Int), OwnS V (w.heap.size + 2) a2 n2 c2 vs2 f a2' n2 c2' vs2' g → Own V (w.heap.size + 2) ab nb cb ys → Src V b → w.grownBy V (some b) → V' = (((V.drew.setCell ⟨w.heap.size, 0, none⟩ (.slice a2 n2 c2)).setCell ⟨w.heap.size, 1, none⟩ (.slice a2' n2 c2')).setCell ⟨w.heap.size + 1, 0, none⟩ (.int .i64 S)).setCell ⟨w.heap.size + 1, 1, none⟩ (.slice ab nb cb) →
        OwnS V' w.heap.size a2 n2 c2 vs2 f a2' n2 c2' vs2' g ∧ Own V' w.heap.size ab nb cb ys ∧ Src V' b ∧ w.grownBy V' (some b) := by
      intro V V' S ab nb cb ys ho hob hs hg e
      subst e
      refine ⟨⟨?_, ?_, ho.ap⟩, ?_, ?_, ?_⟩
      · exact ((((((ho.f.drewN 1).setlo (by simp) _).setlo (by simp) _).setlo (by simp) _).setlo (by simp) _)).mono (by omega)
      · exact ((((((ho.s.drewN 1).setlo (by simp) _).setlo (by simp) _).setlo (by simp) _).setlo (by simp) _)).mono (by omega)
      · exact ((((((hob.drew).setlo (by simp) _).setlo (by simp) _).setlo (by simp) _).setlo (by simp) _)).mono (by omega)
      · exact ((((hs.below (below_drewN (Below.refl _ _) 1)).setne (by show b < w.heap.size; omega) _).setne (by show b < w.heap.size; omega) _).setne (by show b < w.heap.size + 1; omega) _).setne (by show b < w.heap.size + 1; omega) _
      · exact grown_set (grown_set (grown_set (grown_set (grown_trans hg (grown_of_below (below_drewN (Below.refl _ _) 1) (some b))) (.inr (by simp)) _) (.inr (by simp)) _) (.inr (by simp)) _) (.inr (by simp)) _
    rcases hx3 with rfl | rfl
    · have lP := hP6.two
      have lR := hR6.two
      have lX := hX6.two
      have lE := hE6.two
      have d1 : w2.heap.size ≠ w.heap.size := by omega
      have d2 : w2.heap.size ≠ w.heap.size + 1 := by omega
      have d3 : w4.heap.size ≠ w.heap.size := by omega
      have d4 : w4.heap.size ≠ w.heap.size + 1 := by omega
      go_wp2
      go_region
      all_goals go_wp2
      all_goals
        obtain ⟨f1, f2, f3, f4⟩ := fin w6 _ S ab nb cb ys ho6 hob6 hs6 hB6 rfl
        exact bodyPost_ret (v := .tuple #[sAgg a2 n2 c2 a2' n2 c2', bAgg S ab nb cb]) (by simp [results, Tryz.results36, go_sem, lP, lR]) rfl ⟨n2, a2, c2, vs2, f, a2', c2', vs2', g, S, ab, nb, cb, ys, n1, n6, hS1, hS2, hnb, hsm, rfl, f1, f2, f3, f4⟩
    · have h64 : I64 10 := ⟨by omega, by omega⟩
      have lE6 := hE6.two
      go_wp2_with fail
      refine (l17Texts_ok _).mono ?_
      rintro e w7 ⟨at_, ct, rfl, hoT, hb7⟩
      have hP7 := hP6.below hb7 hP6.lt
      have hR7 := hR6.below hb7 hR6.lt
      have hX7 := hX6.below hb7 hX6.lt
      have hE7 := hE6.below hb7 hE6.lt
      have hs7 := hs6.below hb7
      have hB7 := grown_trans hB6 (grown_of_below hb7 (some b))
      have hG7 := grown_trans hG6 (grown_of_below hb7 (some b))
      have hz7 := hb7.size
      clear hP6 hR6 hX6 hE6 hs6 hB6 ho6 hob6 hG6 hb7 lE6
      go_wp2_with fail
      refine (l01Next_ok b 10 _ hs7 h64).mono ?_
      rintro e w8 ⟨y, rfl, _, hy, hs8, hg8⟩
      obtain ⟨hy1, hy2⟩ := hy (by omega)
      obtain ⟨k, rfl⟩ : ∃ k : Nat, y = (k : Int) := ⟨y.toNat, by omega⟩
      have hk : k < 10 := by omega
      have hP8 := hP7.grown hg8 hRP.out.2.1
      have hR8 := hR7.grown hg8 hRP.out.2.2
      have hX8 := hX7.grown hg8 hRP.out.1
      have hE8 := hE7.grown hg8 hEb
      have hB8 := grown_trans hB7 hg8
      have hG8 := grown_trans hG7 hg8
      have hz8 := hg8.size
      have hoT8 := hoT.grown hg8 (fun g e => by have := hoT.lo g e; simp; omega)
      obtain ⟨bt, off, rfl, hbl, hcell⟩ := hoT8.row.all (by omega)
      have g1 := hcell (2 * k + 1) (by omega)
      obtain ⟨u, HU⟩ : ∃ u, Hid (txtL.getD (2 * k + 1) ByteArray.empty = u) := ⟨_, rfl⟩
      rw [HU.out] at g1
      obtain ⟨h2, h10, h58, h5, hL, s, hs, hbr, htx⟩ := (HU.out ▸ txt_ok2 k hk : TxtOk2 u)
      obtain ⟨m, hm⟩ : ∃ m : Nat, m = 2 * k := ⟨_, rfl⟩
      obtain ⟨j, hj⟩ : ∃ j : Nat, j = m + 1 := ⟨_, rfl⟩
      rw [← hm, ← hj] at g1
      have i1 : (0 : Int) ≤ (j : Int) := by omega
      have i2 : (j : Int) < 20 := by omega
      have HPB := Lib.hid (fun W => parseBraid_ok u W h2 h10 h58 h5 hL s hs hbr htx)
      have HSM := Lib.hid (sml_br hbr)
      have HSB := Lib.hid (isBr_let hbr)
      have wm1 : wrap64 (2 * (k : Int)) = (m : Int) := (IntWalk.wrap64_in _ (by omega)).trans (by omega)
      have wm2 : IntKind.i64.wrap (2 * (k : Int)) = (m : Int) := (IntWalk.i64_in _ (by omega)).trans (by omega)
      have wa1 : wrap64 ((m : Int) + 1) = (j : Int) := (IntWalk.wrap64_in _ (by omega)).trans (by omega)
      have wa2 : IntKind.i64.wrap ((m : Int) + 1) = (j : Int) := (IntWalk.i64_in _ (by omega)).trans (by omega)
      clear hcell hy hy1 hy2 h2 h10 h58 h5 hL hs hbr htx hP7 hR7 hX7 hE7 hs7 hB7 hG7 hoT hg8 hm hj
      have lE8 := hE8.two
      go_wp2_with fail
      refine (HPB.out _).mono ?_
      rintro e w9 ⟨a9, n9, c9, rfl, ho9, hb9⟩
      have hP9 := hP8.below hb9 hP8.lt
      have hR9 := hR8.below hb9 hR8.lt
      have hX9 := hX8.below hb9 hX8.lt
      have hE9 := hE8.below hb9 hE8.lt
      have hs9 := hs8.below hb9
      have hB9 := grown_trans hB8 (grown_of_below hb9 (some b))
      have hG9 := grown_trans hG8 (grown_of_below hb9 (some b))
      have hn9 : n9 ≤ 31 := by have := ho9.len; have := HSB.out.2.1; omega
      have hs0 : (0 : Int) ≤ (s : Int) := by omega
      have hs10 : (s : Int) ≤ 10 := by have := HSB.out.1; omega
      obtain ⟨w10, hw10⟩ : ∃ w10, (w9.setCell ⟨w4.heap.size, 0, none⟩ (.int .i64 (s : Int))).setCell ⟨w4.heap.size, 1, none⟩ (.slice a9 n9 c9) = w10 := ⟨_, rfl⟩
      have hE10 : Loc w10 w4.heap.size #[.int .i64 (s : Int), .slice a9 n9 c9] 29 := by rw [← hw10]; exact (hE9.set 0 _).set 1 _
      have d1 : w2.heap.size ≠ w.heap.size := by omega
      have d2 : w2.heap.size ≠ w.heap.size + 1 := by omega
      have d3 : w4.heap.size ≠ w.heap.size := by omega
      have d4 : w4.heap.size ≠ w.heap.size + 1 := by omega
      have d5 : w4.heap.size ≠ w2.heap.size := by omega
      have hP10 : Loc w10 w.heap.size #[.slice none 0 0, .slice none 0 0] 26 := by rw [← hw10]; exact (hP9.setne d3.symm _).setne d3.symm _
      have hR10 : Loc w10 (w.heap.size + 1) #[.int .i64 0, .slice none 0 0] 29 := by rw [← hw10]; exact (hR9.setne d4.symm _).setne d4.symm _
      have hX10 : Loc w10 w2.heap.size #[.slice a2 n2 c2, .slice a2' n2 c2'] 26 := by rw [← hw10]; exact (hX9.setne d5.symm _).setne d5.symm _
      have hs10' : Src w10 b := by rw [← hw10]; exact (hs9.setne (by show b < w4.heap.size; omega) _).setne (by show b < w4.heap.size; omega) _
      have hB10 : w.grownBy w10 (some b) := by rw [← hw10]; exact grown_set (grown_set hB9 (.inr (by show w.heap.size ≤ w4.heap.size; omega)) _) (.inr (by show w.heap.size ≤ w4.heap.size; omega)) _
      have hG10 : w4.grownBy w10 (some b) := by rw [← hw10]; exact grown_set (grown_set hG9 (.inr (Nat.le_refl _)) _) (.inr (Nat.le_refl _)) _
      have ho10 := ho4.grownb hG10 (by omega)
      have hob10 : Own w10 (w.heap.size + 2) a9 n9 c9 (wrdK u (u.size - 2)) := by rw [← hw10]; exact ((ho9.setlo (by show w4.heap.size < w8.heap.size; omega) _).setlo (by show w4.heap.size < w8.heap.size; omega) _).mono (by omega)
      have HW10 := Lib.hid hw10
      have lE9 := hE9.two
      clear hw10 hP8 hR8 hX8 hE8 hs8 hB8 hG8 hP9 hR9 hX9 hE9 hs9 hB9 hG9 ho9 hb9 lE8
      go_wp2
      rw [HW10.out]
      clear lE9
      have lP := hP10.two
      have lR := hR10.two
      have lX := hX10.two
      have lE := hE10.two
      go_region
      all_goals go_wp2
      all_goals
        obtain ⟨f1, f2, f3, f4⟩ := fin w10 _ (s : Int) a9 n9 c9 (wrdK u (u.size - 2)) ho10 hob10 hs10' hB10 rfl
        exact bodyPost_ret (v := .tuple #[sAgg a2 n2 c2 a2' n2 c2', bAgg (s : Int) a9 n9 c9]) (by simp [results, Tryz.results36, go_sem, lP, lR]) rfl ⟨n2, a2, c2, vs2, f, a2', c2', vs2', g, (s : Int), a9, n9, c9, wrdK u (u.size - 2), n1, n6, hs0, hs10, hn9, HSM.out, rfl, f1, f2, f3, f4⟩

set_option maxHeartbeats 32000000 in
theorem DrawColouringsOf_ok (a : Option Addr) (n c : Nat) (xs : List Int) (w : World) (h : Bts w a n xs) (hn : n ≤ 9223372036854775807) :
    Calls Tryz.prog 6 #[.slice a n c] w (DrQ w) := by
  have hP := (Loc.new w rfl #[.slice none 0 0, .slice none 0 0] 26).alloc (.cells #[.int .i64 0, .slice none 0 0] 29)
  have hR := Loc.new (w.alloc (.cells #[.slice none 0 0, .slice none 0 0] 26)) rfl #[.int .i64 0, .slice none 0 0] 29
  have hB0 := below_al (below_al (Below.refl w.heap.size w) (.cells #[.slice none 0 0, .slice none 0 0] 26)) (.cells #[.int .i64 0, .slice none 0 0] 29)
  rw [size_alloc] at hR
  go_enter Tryz.func6, Tryz.ntmps6
  go_wp2_with fail
  refine (l01From_ok a n c xs _ (h.below hB0) hn).mono ?_
  rintro e w1 ⟨b, rfl, hb, hs1, hb1⟩
  have hP1 := hP.below hb1 hP.lt
  have hR1 := hR.below hb1 hR.lt
  have hB1 := below_th hB0 hb1
  rw [size_alloc, size_alloc] at hb
  have hlb := hs1.lt
  clear hP hR hB0 hb1
  go_wp2_with fail
  refine (l17Draw_ok b a n c xs _ hs1 (h.below hB1) hn).mono ?_
  rintro e w2 ⟨n2, a2, c2, vs2, f, a2', c2', vs2', g, S, ab, nb, cb, ys, n1, n6, hS1, hS2, hnb, hsm, rfl, ho2, hob2, hs2, hg2⟩
  have hP2 := hP1.grown hg2 (by simp; omega)
  have hR2 := hR1.grown hg2 (by simp; omega)
  have hB2 := below_grown hB1 hg2 (by omega)
  have hz2 := hg2.size
  obtain ⟨w3, hw3⟩ : ∃ w3, (w2.alloc (.cells #[.slice a2 n2 c2, .slice a2' n2 c2'] 26)).alloc (.cells #[.int .i64 S, .slice ab nb cb] 29) = w3 := ⟨_, rfl⟩
  have hb3 : Below w2.heap.size w2 w3 := by rw [← hw3]; exact below_al (below_al (Below.refl _ _) _) _
  have hX3 : Loc w3 w2.heap.size #[.slice a2 n2 c2, .slice a2' n2 c2'] 26 := by rw [← hw3]; exact (Loc.new w2 rfl _ _).alloc _
  have hE3 : Loc w3 (w2.heap.size + 1) #[.int .i64 S, .slice ab nb cb] 29 := by rw [← hw3]; exact Loc.new _ (by simp) _ _
  have hP3 := hP2.below hb3 hP2.lt
  have hR3 := hR2.below hb3 hR2.lt
  have hB3 := below_th hB2 hb3
  have ho3 := (ho2.mono (lo' := w.heap.size + 2) (by omega)).below hb3
  have hob3 := (hob2.mono (lo' := w.heap.size + 2) (by omega)).below hb3
  have HW3 := Lib.hid hw3
  clear hP1 hP2 hR1 hR2 hB1 hB2 hs1 hs2 ho2 hob2 hg2 hb3 hw3
  have d1 : w2.heap.size ≠ w.heap.size := by omega
  have d2 : w2.heap.size ≠ w.heap.size + 1 := by omega
  have d3 : w2.heap.size + 1 ≠ w.heap.size := by omega
  have d4 : w2.heap.size + 1 ≠ w.heap.size + 1 := by omega
  have fin : ∀ V' : World, V' = (((w3.drew.setCell ⟨w.heap.size, 0, none⟩ (.slice a2 n2 c2)).setCell ⟨w.heap.size, 1, none⟩ (.slice a2' n2 c2')).setCell ⟨w.heap.size + 1, 0, none⟩ (.int .i64 S)).setCell ⟨w.heap.size + 1, 1, none⟩ (.slice ab nb cb) →
      OwnS V' w.heap.size a2 n2 c2 vs2 f a2' n2 c2' vs2' g ∧ Own V' w.heap.size ab nb cb ys ∧ Below w.heap.size w V' := by
    intro V' e
    subst e
    refine ⟨⟨?_, ?_, ho3.ap⟩, ?_, ?_⟩
    · exact ((((((ho3.f.drewN 1).setlo (by simp) _).setlo (by simp) _).setlo (by simp) _).setlo (by simp) _)).mono (by omega)
    · exact ((((((ho3.s.drewN 1).setlo (by simp) _).setlo (by simp) _).setlo (by simp) _).setlo (by simp) _)).mono (by omega)
    · exact ((((((hob3.drew).setlo (by simp) _).setlo (by simp) _).setlo (by simp) _).setlo (by simp) _)).mono (by omega)
    · exact ((((below_drewN hB3 1).setCell (by simp) _).setCell (by simp) _).setCell (by simp) _).setCell (by simp) _
  go_wp2
  rw [HW3.out]
  have lP := hP3.two
  have lR := hR3.two
  have lX := hX3.two
  have lE := hE3.two
  go_region
  all_goals go_wp2
  all_goals
    obtain ⟨f1, f2, f3⟩ := fin _ rfl
    exact bodyPost_ret (v := .tuple #[sAgg a2 n2 c2 a2' n2 c2', bAgg S ab nb cb]) (by simp [results, Tryz.results6, go_sem, lP, lR]) rfl ⟨n2, a2, c2, vs2, f, a2', c2', vs2', g, S, ab, nb, cb, ys, n1, n6, hS1, hS2, hnb, hsm, rfl, f1, f2, f3⟩

end Go.Proofs.YtmncpnpjhchliaaGreat
