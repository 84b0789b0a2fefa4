/-
  The walk of the law of braids' words: it answers true.
  No condition.
-/
import Derived.Test.YtgnaeeifnhgobaaBase2
import Derived.Test.YtgnaeeifnhgobaaDrawH
import Derived.Test.YtgnaeeifnhgobaaSumB
import Derived.Test.YtgnaeeifnhgobaaHwL
import Derived.Test.YtgnaeeifnhgobaaLaw9
namespace Go.Proofs.Ytgnaeeifnhgobaa
set_option maxRecDepth 100000
set_option linter.unusedVariables false
set_option linter.unusedSimpArgs false
open Go.RowKit

theorem bts_al {w : World} {a : Option Addr} {n : Nat} {xs : List Int} (h : Bts w a n xs) (o : Obj) : Bts (w.alloc o) a n xs := h.below (below_al (Below.refl _ _) _)
theorem tim_cases (s : Int) (xs : List Int) (t : Int) (ys : List Int) : (∃ k, k ≠ 0 ∧ timF s xs t ys = (0, [], k)) ∨ (isBr s xs = true ∧ isBr s ys = true ∧ s = t ∧ xs.length + ys.length ≤ 30 ∧ timF s xs t ys = (s, xs ++ ys, 0)) := by
  unfold timF
  by_cases h : isBr s xs && isBr t ys && decide (s = t)
  · rw [if_pos h]
    simp only [Bool.and_eq_true, decide_eq_true_eq] at h
    obtain ⟨⟨h1, h2⟩, rfl⟩ := h
    by_cases h30 : xs.length + ys.length ≤ 30
    · rw [if_pos h30]; exact .inr ⟨h1, h2, rfl, h30, rfl⟩
    · rw [if_neg h30]; exact .inl ⟨3, by omega, rfl⟩
  · rw [if_neg h]; exact .inl ⟨1, by omega, rfl⟩
theorem sgS_fold (l : List Int) : ∀ a : Int, l.foldl (· + ·) a = a + l.foldl (· + ·) 0 := by
  induction l with
  | nil => intro a; simp
  | cons x l ih => intro a; simp only [List.foldl_cons]; rw [ih (a + x), ih (0 + x)]; omega
theorem sgS_app (xs ys : List Int) : sgS (xs ++ ys) = sgS xs + sgS ys := by
  unfold sgS; rw [List.map_append, List.foldl_append, sgS_fold]
theorem br_app {n : Nat} {xs ys : List Int} (h1 : isBr n xs = true) (h2 : isBr n ys = true) (h : xs.length + ys.length ≤ 30) : isBr n (xs ++ ys) = true :=
  ltr_br (br_ltr h1).1 (br_ltr h1).2.1 (ltr_app (br_ltr h1).2.2.2 (br_ltr h2).2.2.2) (by simpa using h)
theorem br_plc {n : Nat} {xs : List Int} (h : isBr n xs = true) : ∀ x ∈ xs, 0 ≤ plc x ∧ plc x + 1 < n := fun x hx => plc_let ((isBr_let h).2.2 x hx)
/-- what is left of a braid is that braid -/
theorem red_br {n : Nat} {xs : List Int} (h : isBr n xs = true) : isBr n (redL xs) = true ∧ Sim n (begS n (0, []) xs) (begS n (0, []) (redL xs)) := by
  obtain ⟨h2, h6, h30, hl⟩ := br_ltr h
  have := red_sim (n := n) (s := (0, [])) (fun p hp => by simp at hp) xs [] hl (fun x hx => by simp at hx)
  refine ⟨ltr_br h2 h6 this.2 ?_, by simpa [redL] using this.1⟩
  have hr := red_len xs xs.length (Nat.le_refl _)
  rw [List.take_length] at hr
  unfold redL; omega
theorem prs_data (t : ByteArray) : (∃ (s : Nat) (X : List Int), isBr s X = true ∧ ∃ h2 : 2 ≤ t.size, t[1].toNat = 58 ∧ LetT t ∧ (t[0].toNat : Int) - 48 = s ∧ X = wrdK t (t.size - 2) ∧ txtB s X = t) ∨ ¬ PrsT t := by
  by_cases h : PrsT t
  · obtain ⟨h2, hc, hL, hb⟩ := h
    have hs := (isBr_let hb).1
    refine .inl ⟨t[0].toNat - 48, wrdK t (t.size - 2), ?_, h2, hc, hL, by omega, rfl, txt_back t h2 hc hL _ (by omega)⟩
    rw [show ((t[0].toNat - 48 : Nat) : Int) = (t[0].toNat : Int) - 48 by omega]; exact hb
  · exact .inr h
set_option maxHeartbeats 64000000 in
theorem law_Bw (a : Option Addr) (n c : Nat) (xs : List Int) (w : World) (h : Bts w a n xs) (hn : n ≤ 9223372036854775807) :
    Calls Try.prog 3 #[.slice a n c] w fun e w' => e = .returned (.bool true) ∧ Below w.heap.size w w' := by
  have hB : Below w.heap.size w w := Below.refl _ _
  go_enter Try.func3, Try.ntmps3
  go_wp2_with fail
  refine (big_any a n c _ hn).mono ?_
  rintro e w0 ⟨rfl, rfl⟩
  by_cases hbig : 4096 < n
  · have hd : decide (4096 < n) = true := by simpa using hbig
    rw [hd]
    go_wp2
    go_ret
    exact ⟨rfl, Below.refl _ _⟩
  have hd : decide (4096 < n) = false := by simpa using hbig
  rw [hd]
  clear hd hbig
  go_wp2_with fail
  refine (DrawTimesBraid_ok a n c xs _ (h.below hB) hn).mono ?_
  rintro e w1 ⟨S, a3, n3, c3, ys, T, a4, n4, c4, zs, rfl, hS1, hS2, hn3, hsm3, hT1, hT2, hn4, hsm4, ho3, ho4, hbw1⟩
  replace hB := below_th hB hbw1
  rcases tim_cases S ys T zs with ⟨k1, hk1, hF1⟩ | ⟨hb1, hb2, rfl, h30, hF1⟩
  · have HTI := Lib.hid fun (w : World) (h1 : Row w a3 n3 ys) (h2 : Row w a4 n4 zs) => impl_Tim_any S T a3 a4 n3 n4 c3 c4 ys zs w h1 h2 (by omega) (by omega)
    have HTS := Lib.hid fun (w : World) (h1 : Row w a3 n3 ys) (h2 : Row w a4 n4 zs) => spec_Tim_any S T a3 a4 n3 n4 c3 c4 ys zs w h1 h2 (by omega) (by omega) ⟨by omega, by omega⟩ ⟨by omega, by omega⟩
    rw [hF1] at HTI HTS
    have p1 : (k1 == 0) = false := by simpa using hk1
    have p2 : (k1 != k1) = false := by simp
    have p3 : ¬ k1 = 0 := hk1
    clear hF1 hk1
    have m3 := ((Loc.new w1 rfl #[.int .i64 S, .slice a3 n3 c3] 26).alloc (.cells #[.int .i64 T, .slice a4 n4 c4] 26)).two
    have m4 := (Loc.new (b := w1.heap.size + 1) (w1.alloc (.cells #[.int .i64 S, .slice a3 n3 c3] 26)) (by simp) #[.int .i64 T, .slice a4 n4 c4] 26).two
    go_wp2_with fail
    refine (HTI.out _ ((ho3.alloc (.cells #[.int .i64 S, .slice a3 n3 c3] 26)).alloc (.cells #[.int .i64 T, .slice a4 n4 c4] 26)).row ((ho4.alloc (.cells #[.int .i64 S, .slice a3 n3 c3] 26)).alloc (.cells #[.int .i64 T, .slice a4 n4 c4] 26)).row).mono ?_
    rintro e w2 ⟨a5, n5, c5, rfl, ho5, hbw2⟩
    clear m3 m4
    have hL3 := ((Loc.new w1 rfl #[.int .i64 S, .slice a3 n3 c3] 26).alloc (.cells #[.int .i64 T, .slice a4 n4 c4] 26)).below hbw2 ((Loc.new w1 rfl #[.int .i64 S, .slice a3 n3 c3] 26).alloc (.cells #[.int .i64 T, .slice a4 n4 c4] 26)).lt
    have l3 := hL3.two
    have hL4 := (Loc.new (b := w1.heap.size + 1) (w1.alloc (.cells #[.int .i64 S, .slice a3 n3 c3] 26)) (by simp) #[.int .i64 T, .slice a4 n4 c4] 26).below hbw2 (Loc.new (b := w1.heap.size + 1) (w1.alloc (.cells #[.int .i64 S, .slice a3 n3 c3] 26)) (by simp) #[.int .i64 T, .slice a4 n4 c4] 26).lt
    have l4 := hL4.two
    replace ho3 := ((ho3.alloc (.cells #[.int .i64 S, .slice a3 n3 c3] 26)).alloc (.cells #[.int .i64 T, .slice a4 n4 c4] 26)).below hbw2
    replace ho4 := ((ho4.alloc (.cells #[.int .i64 S, .slice a3 n3 c3] 26)).alloc (.cells #[.int .i64 T, .slice a4 n4 c4] 26)).below hbw2
    replace hB := below_th (below_al (below_al hB (.cells #[.int .i64 S, .slice a3 n3 c3] 26)) (.cells #[.int .i64 T, .slice a4 n4 c4] 26)) hbw2
    have m3 := (hL3.alloc (.cells #[.int .i64 0, .slice a5 n5 c5] 26)).two
    have m4 := (hL4.alloc (.cells #[.int .i64 0, .slice a5 n5 c5] 26)).two
    have m5 := (Loc.new w2 rfl #[.int .i64 0, .slice a5 n5 c5] 26).two
    go_wp2_with fail
    refine (HTS.out _ (ho3.alloc (.cells #[.int .i64 0, .slice a5 n5 c5] 26)).row (ho4.alloc (.cells #[.int .i64 0, .slice a5 n5 c5] 26)).row).mono ?_
    rintro e w3 ⟨a7, n7, c7, rfl, ho7, hbw3⟩
    clear m3 m4 m5
    replace hL3 := (hL3.alloc (.cells #[.int .i64 0, .slice a5 n5 c5] 26)).below hbw3 (hL3.alloc (.cells #[.int .i64 0, .slice a5 n5 c5] 26)).lt
    replace l3 := hL3.two
    replace hL4 := (hL4.alloc (.cells #[.int .i64 0, .slice a5 n5 c5] 26)).below hbw3 (hL4.alloc (.cells #[.int .i64 0, .slice a5 n5 c5] 26)).lt
    replace l4 := hL4.two
    have hL5 := (Loc.new w2 rfl #[.int .i64 0, .slice a5 n5 c5] 26).below hbw3 (Loc.new w2 rfl #[.int .i64 0, .slice a5 n5 c5] 26).lt
    have l5 := hL5.two
    replace ho3 := (ho3.alloc (.cells #[.int .i64 0, .slice a5 n5 c5] 26)).below hbw3
    replace ho4 := (ho4.alloc (.cells #[.int .i64 0, .slice a5 n5 c5] 26)).below hbw3
    replace ho5 := (ho5.alloc (.cells #[.int .i64 0, .slice a5 n5 c5] 26)).below hbw3
    replace hB := below_th (below_al hB (.cells #[.int .i64 0, .slice a5 n5 c5] 26)) hbw3
    have m3 := (hL3.alloc (.cells #[.int .i64 0, .slice a7 n7 c7] 26)).two
    have m4 := (hL4.alloc (.cells #[.int .i64 0, .slice a7 n7 c7] 26)).two
    have m5 := (hL5.alloc (.cells #[.int .i64 0, .slice a7 n7 c7] 26)).two
    have m7 := (Loc.new w3 rfl #[.int .i64 0, .slice a7 n7 c7] 26).two
    go_wp2_with fail
    refine (braid9_same _ _ _ _ _ _ _ [] _ (ho5.alloc (.cells #[.int .i64 0, .slice a7 n7 c7] 26)).row (ho7.alloc (.cells #[.int .i64 0, .slice a7 n7 c7] 26)).row (by have := ho5.len; simp at this; omega)).mono ?_
    rintro e w4 ⟨rfl, hbw4⟩
    clear m3 m4 m5 m7
    replace hL3 := (hL3.alloc (.cells #[.int .i64 0, .slice a7 n7 c7] 26)).below hbw4 (hL3.alloc (.cells #[.int .i64 0, .slice a7 n7 c7] 26)).lt
    replace l3 := hL3.two
    replace hL4 := (hL4.alloc (.cells #[.int .i64 0, .slice a7 n7 c7] 26)).below hbw4 (hL4.alloc (.cells #[.int .i64 0, .slice a7 n7 c7] 26)).lt
    replace l4 := hL4.two
    replace hL5 := (hL5.alloc (.cells #[.int .i64 0, .slice a7 n7 c7] 26)).below hbw4 (hL5.alloc (.cells #[.int .i64 0, .slice a7 n7 c7] 26)).lt
    replace l5 := hL5.two
    have hL7 := (Loc.new w3 rfl #[.int .i64 0, .slice a7 n7 c7] 26).below hbw4 (Loc.new w3 rfl #[.int .i64 0, .slice a7 n7 c7] 26).lt
    have l7 := hL7.two
    replace ho3 := (ho3.alloc (.cells #[.int .i64 0, .slice a7 n7 c7] 26)).below hbw4
    replace ho4 := (ho4.alloc (.cells #[.int .i64 0, .slice a7 n7 c7] 26)).below hbw4
    replace ho5 := (ho5.alloc (.cells #[.int .i64 0, .slice a7 n7 c7] 26)).below hbw4
    replace ho7 := (ho7.alloc (.cells #[.int .i64 0, .slice a7 n7 c7] 26)).below hbw4
    replace hB := below_th (below_al hB (.cells #[.int .i64 0, .slice a7 n7 c7] 26)) hbw4
    clear hL3 l3 hL4 l4 hL5 l5 hL7 l7
    go_wp2_with fail
    refine (DrawReduceBraid_ok a n c xs _ (h.below hB) hn).mono ?_
    rintro e w5 ⟨S2, a27, n27, c27, us, rfl, hS21, hS22, hn27, hsm2, ho27, hbw5⟩
    replace hB := below_th hB hbw5
    cases hb2 : isBr S2 us with
    | false =>
      have HB2 := Lib.hid hb2; clear hb2
      have m27 := (Loc.new w5 rfl #[.int .i64 S2, .slice a27 n27 c27] 26).two
      go_wp2_with fail
      refine (impl_Red_no S2 a27 n27 c27 us _ (ho27.alloc (.cells #[.int .i64 S2, .slice a27 n27 c27] 26)).row (by omega) HB2.out).mono ?_
      rintro e w6 ⟨a28, n28, c28, rfl, ho28, hbw6⟩
      clear m27
      have hL27 := (Loc.new w5 rfl #[.int .i64 S2, .slice a27 n27 c27] 26).below hbw6 (Loc.new w5 rfl #[.int .i64 S2, .slice a27 n27 c27] 26).lt
      have l27 := hL27.two
      replace ho27 := (ho27.alloc (.cells #[.int .i64 S2, .slice a27 n27 c27] 26)).below hbw6
      replace hB := below_th (below_al hB (.cells #[.int .i64 S2, .slice a27 n27 c27] 26)) hbw6
      have m27 := (hL27.alloc (.cells #[.int .i64 0, .slice a28 n28 c28] 26)).two
      have m28 := (Loc.new w6 rfl #[.int .i64 0, .slice a28 n28 c28] 26).two
      go_wp2_with fail
      refine (spec_Red_no S2 a27 n27 c27 us _ (ho27.alloc (.cells #[.int .i64 0, .slice a28 n28 c28] 26)).row (by omega) ⟨by omega, by omega⟩ HB2.out).mono ?_
      rintro e w7 ⟨a30, n30, c30, rfl, ho30, hbw7⟩
      clear m27 m28
      replace hL27 := (hL27.alloc (.cells #[.int .i64 0, .slice a28 n28 c28] 26)).below hbw7 (hL27.alloc (.cells #[.int .i64 0, .slice a28 n28 c28] 26)).lt
      replace l27 := hL27.two
      have hL28 := (Loc.new w6 rfl #[.int .i64 0, .slice a28 n28 c28] 26).below hbw7 (Loc.new w6 rfl #[.int .i64 0, .slice a28 n28 c28] 26).lt
      have l28 := hL28.two
      replace ho27 := (ho27.alloc (.cells #[.int .i64 0, .slice a28 n28 c28] 26)).below hbw7
      replace ho28 := (ho28.alloc (.cells #[.int .i64 0, .slice a28 n28 c28] 26)).below hbw7
      replace hB := below_th (below_al hB (.cells #[.int .i64 0, .slice a28 n28 c28] 26)) hbw7
      have m27 := (hL27.alloc (.cells #[.int .i64 0, .slice a30 n30 c30] 26)).two
      have m28 := (hL28.alloc (.cells #[.int .i64 0, .slice a30 n30 c30] 26)).two
      have m30 := (Loc.new w7 rfl #[.int .i64 0, .slice a30 n30 c30] 26).two
      go_wp2_with fail
      refine (braid9_same _ _ _ _ _ _ _ [] _ (ho28.alloc (.cells #[.int .i64 0, .slice a30 n30 c30] 26)).row (ho30.alloc (.cells #[.int .i64 0, .slice a30 n30 c30] 26)).row (by have := ho28.len; simp at this; omega)).mono ?_
      rintro e w8 ⟨rfl, hbw8⟩
      clear m27 m28 m30
      replace hL27 := (hL27.alloc (.cells #[.int .i64 0, .slice a30 n30 c30] 26)).below hbw8 (hL27.alloc (.cells #[.int .i64 0, .slice a30 n30 c30] 26)).lt
      replace l27 := hL27.two
      replace hL28 := (hL28.alloc (.cells #[.int .i64 0, .slice a30 n30 c30] 26)).below hbw8 (hL28.alloc (.cells #[.int .i64 0, .slice a30 n30 c30] 26)).lt
      replace l28 := hL28.two
      have hL30 := (Loc.new w7 rfl #[.int .i64 0, .slice a30 n30 c30] 26).below hbw8 (Loc.new w7 rfl #[.int .i64 0, .slice a30 n30 c30] 26).lt
      have l30 := hL30.two
      replace ho27 := (ho27.alloc (.cells #[.int .i64 0, .slice a30 n30 c30] 26)).below hbw8
      replace ho28 := (ho28.alloc (.cells #[.int .i64 0, .slice a30 n30 c30] 26)).below hbw8
      replace ho30 := (ho30.alloc (.cells #[.int .i64 0, .slice a30 n30 c30] 26)).below hbw8
      replace hB := below_th (below_al hB (.cells #[.int .i64 0, .slice a30 n30 c30] 26)) hbw8
      clear hL27 l27 hL28 l28 hL30 l30
      go_wp2_with fail
      refine (DrawParseBraid_ok a n c xs _ (h.below hB) hn).mono ?_
      rintro e w9 ⟨tx, rfl, htz, hbw9⟩
      replace hB := below_th hB hbw9
      rcases prs_data tx with ⟨s3, X3, hb3, h23, hc3, hL3, hs3, hX3, htx⟩ | hnp
      · have HPI : Hid (∀ w, Calls Try.prog 20 #[.string tx] w (RetB w s3 X3 0)) := Lib.hid fun w => by
          have := impl_Prs_ok tx w htz h23 hc3 hL3 (by rw [hs3, ← hX3]; exact hb3)
          rw [hs3, ← hX3] at this; exact this
        have HPS : Hid (∀ w, Calls Try.prog 21 #[.string tx] w (RetB w s3 X3 0)) := Lib.hid fun w => spec_Prs_any tx w htz s3 X3 0 (.inl ⟨h23, hc3, hL3, by rw [hs3, ← hX3]; exact hb3, hs3.symm, hX3, rfl⟩)
        have HB3 : Hid (isBr s3 X3 = true) := Lib.hid hb3
        have HTX := Lib.hid htx
        have hX30 : X3.length ≤ 30 := (isBr_let hb3).2.1
        clear hb3 hc3 hL3 hs3 hX3 htx h23
        go_wp2_with fail
        refine (HPI.out _).mono ?_
        rintro e w10 ⟨a35, n35, c35, rfl, ho35, hbw10⟩
        replace hB := below_th hB hbw10
        have m35 := (Loc.new w10 rfl #[.int .i64 s3, .slice a35 n35 c35] 26).two
        go_wp2_with fail
        refine (HPS.out _).mono ?_
        rintro e w11 ⟨a37, n37, c37, rfl, ho37, hbw11⟩
        clear m35
        have hL35 := (Loc.new w10 rfl #[.int .i64 s3, .slice a35 n35 c35] 26).below hbw11 (Loc.new w10 rfl #[.int .i64 s3, .slice a35 n35 c35] 26).lt
        have l35 := hL35.two
        replace ho35 := (ho35.alloc (.cells #[.int .i64 s3, .slice a35 n35 c35] 26)).below hbw11
        replace hB := below_th (below_al hB (.cells #[.int .i64 s3, .slice a35 n35 c35] 26)) hbw11
        have m35 := (hL35.alloc (.cells #[.int .i64 s3, .slice a37 n37 c37] 26)).two
        have m37 := (Loc.new w11 rfl #[.int .i64 s3, .slice a37 n37 c37] 26).two
        go_wp2_with fail
        refine (braid9_same _ _ _ _ _ _ _ X3 _ (ho35.alloc (.cells #[.int .i64 s3, .slice a37 n37 c37] 26)).row (ho37.alloc (.cells #[.int .i64 s3, .slice a37 n37 c37] 26)).row (by have := ho35.len; omega)).mono ?_
        rintro e w12 ⟨rfl, hbw12⟩
        clear m35 m37
        replace hL35 := (hL35.alloc (.cells #[.int .i64 s3, .slice a37 n37 c37] 26)).below hbw12 (hL35.alloc (.cells #[.int .i64 s3, .slice a37 n37 c37] 26)).lt
        replace l35 := hL35.two
        have hL37 := (Loc.new w11 rfl #[.int .i64 s3, .slice a37 n37 c37] 26).below hbw12 (Loc.new w11 rfl #[.int .i64 s3, .slice a37 n37 c37] 26).lt
        have l37 := hL37.two
        replace ho35 := (ho35.alloc (.cells #[.int .i64 s3, .slice a37 n37 c37] 26)).below hbw12
        replace ho37 := (ho37.alloc (.cells #[.int .i64 s3, .slice a37 n37 c37] 26)).below hbw12
        replace hB := below_th (below_al hB (.cells #[.int .i64 s3, .slice a37 n37 c37] 26)) hbw12
        clear hL37 l37
        go_wp2_with fail
        refine (impl_Btx_ok s3 a35 n35 c35 X3 _ ho35.row HB3.out).mono ?_
        rintro e w13 ⟨rfl, hbw13⟩
        replace hL35 := hL35.below hbw13 hL35.lt
        replace l35 := hL35.two
        replace ho35 := ho35.below hbw13
        replace hB := below_th hB hbw13
        rw [HTX.out]
        go_wp2
        go_ret
        exact ⟨rfl, hB⟩
      · have HPI := Lib.hid fun w => impl_Prs_no tx w htz hnp
        have HPS := Lib.hid fun w => spec_Prs_any tx w htz 0 [] 6 (.inr ⟨hnp, rfl, rfl, rfl⟩)
        clear hnp
        go_wp2_with fail
        refine (HPI.out _).mono ?_
        rintro e w10 ⟨a35, n35, c35, rfl, ho35, hbw10⟩
        replace hB := below_th hB hbw10
        have m35 := (Loc.new w10 rfl #[.int .i64 0, .slice a35 n35 c35] 26).two
        go_wp2_with fail
        refine (HPS.out _).mono ?_
        rintro e w11 ⟨a37, n37, c37, rfl, ho37, hbw11⟩
        clear m35
        have hL35 := (Loc.new w10 rfl #[.int .i64 0, .slice a35 n35 c35] 26).below hbw11 (Loc.new w10 rfl #[.int .i64 0, .slice a35 n35 c35] 26).lt
        have l35 := hL35.two
        replace ho35 := (ho35.alloc (.cells #[.int .i64 0, .slice a35 n35 c35] 26)).below hbw11
        replace hB := below_th (below_al hB (.cells #[.int .i64 0, .slice a35 n35 c35] 26)) hbw11
        have m35 := (hL35.alloc (.cells #[.int .i64 0, .slice a37 n37 c37] 26)).two
        have m37 := (Loc.new w11 rfl #[.int .i64 0, .slice a37 n37 c37] 26).two
        go_wp2_with fail
        refine (braid9_same _ _ _ _ _ _ _ [] _ (ho35.alloc (.cells #[.int .i64 0, .slice a37 n37 c37] 26)).row (ho37.alloc (.cells #[.int .i64 0, .slice a37 n37 c37] 26)).row (by have := ho35.len; simp at this; omega)).mono ?_
        rintro e w12 ⟨rfl, hbw12⟩
        clear m35 m37
        replace hL35 := (hL35.alloc (.cells #[.int .i64 0, .slice a37 n37 c37] 26)).below hbw12 (hL35.alloc (.cells #[.int .i64 0, .slice a37 n37 c37] 26)).lt
        replace l35 := hL35.two
        have hL37 := (Loc.new w11 rfl #[.int .i64 0, .slice a37 n37 c37] 26).below hbw12 (Loc.new w11 rfl #[.int .i64 0, .slice a37 n37 c37] 26).lt
        have l37 := hL37.two
        replace ho35 := (ho35.alloc (.cells #[.int .i64 0, .slice a37 n37 c37] 26)).below hbw12
        replace ho37 := (ho37.alloc (.cells #[.int .i64 0, .slice a37 n37 c37] 26)).below hbw12
        replace hB := below_th (below_al hB (.cells #[.int .i64 0, .slice a37 n37 c37] 26)) hbw12
        go_wp2
        go_ret
        exact ⟨rfl, hB⟩
    | true =>
      obtain ⟨M, rfl⟩ : ∃ M : Nat, S2 = M := ⟨S2.toNat, by omega⟩
      have hM2 : 2 ≤ M := (br_ltr hb2).1
      have hrb := red_br hb2
      obtain ⟨r1, hr1⟩ := br_nfo hb2
      obtain ⟨r2, hr2⟩ := br_nfo hrb.1
      obtain rfl : r1 = r2 := nfo_sim hM2 (br_fx hb2) (br_fx hrb.1) hrb.2 hr1 hr2
      have HB2 : Hid (isBr M us = true) := Lib.hid hb2
      have HBR := Lib.hid hrb.1
      have HR1 := Lib.hid hr1; have HR2 := Lib.hid hr2
      have HRL : Hid ((redL us).length ≤ 30) := Lib.hid (isBr_let hrb.1).2.1
      have s8 : decide (r1 = r1) = true := by simp
      clear hb2 hrb hr1 hr2
      have m27 := (Loc.new w5 rfl #[.int .i64 M, .slice a27 n27 c27] 26).two
      go_wp2_with fail
      refine (impl_Red_ok M a27 n27 c27 us _ (ho27.alloc (.cells #[.int .i64 M, .slice a27 n27 c27] 26)).row (by omega) HB2.out).mono ?_
      rintro e w6 ⟨a28, n28, c28, rfl, ho28, hbw6⟩
      clear m27
      have hL27 := (Loc.new w5 rfl #[.int .i64 M, .slice a27 n27 c27] 26).below hbw6 (Loc.new w5 rfl #[.int .i64 M, .slice a27 n27 c27] 26).lt
      have l27 := hL27.two
      replace ho27 := (ho27.alloc (.cells #[.int .i64 M, .slice a27 n27 c27] 26)).below hbw6
      replace hB := below_th (below_al hB (.cells #[.int .i64 M, .slice a27 n27 c27] 26)) hbw6
      have m27 := (hL27.alloc (.cells #[.int .i64 M, .slice a28 n28 c28] 26)).two
      have m28 := (Loc.new w6 rfl #[.int .i64 M, .slice a28 n28 c28] 26).two
      go_wp2_with fail
      refine (spec_Red_ok M a27 n27 c27 us _ (ho27.alloc (.cells #[.int .i64 M, .slice a28 n28 c28] 26)).row (by omega) HB2.out).mono ?_
      rintro e w7 ⟨a30, n30, c30, rfl, ho30, hbw7⟩
      clear m27 m28
      replace hL27 := (hL27.alloc (.cells #[.int .i64 M, .slice a28 n28 c28] 26)).below hbw7 (hL27.alloc (.cells #[.int .i64 M, .slice a28 n28 c28] 26)).lt
      replace l27 := hL27.two
      have hL28 := (Loc.new w6 rfl #[.int .i64 M, .slice a28 n28 c28] 26).below hbw7 (Loc.new w6 rfl #[.int .i64 M, .slice a28 n28 c28] 26).lt
      have l28 := hL28.two
      replace ho27 := (ho27.alloc (.cells #[.int .i64 M, .slice a28 n28 c28] 26)).below hbw7
      replace ho28 := (ho28.alloc (.cells #[.int .i64 M, .slice a28 n28 c28] 26)).below hbw7
      replace hB := below_th (below_al hB (.cells #[.int .i64 M, .slice a28 n28 c28] 26)) hbw7
      have m27 := (hL27.alloc (.cells #[.int .i64 M, .slice a30 n30 c30] 26)).two
      have m28 := (hL28.alloc (.cells #[.int .i64 M, .slice a30 n30 c30] 26)).two
      have m30 := (Loc.new w7 rfl #[.int .i64 M, .slice a30 n30 c30] 26).two
      go_wp2_with fail
      refine (braid9_same _ _ _ _ _ _ _ (redL us) _ (ho28.alloc (.cells #[.int .i64 M, .slice a30 n30 c30] 26)).row (ho30.alloc (.cells #[.int .i64 M, .slice a30 n30 c30] 26)).row (by have := ho28.len; have := HRL.out; omega)).mono ?_
      rintro e w8 ⟨rfl, hbw8⟩
      clear m27 m28 m30
      replace hL27 := (hL27.alloc (.cells #[.int .i64 M, .slice a30 n30 c30] 26)).below hbw8 (hL27.alloc (.cells #[.int .i64 M, .slice a30 n30 c30] 26)).lt
      replace l27 := hL27.two
      replace hL28 := (hL28.alloc (.cells #[.int .i64 M, .slice a30 n30 c30] 26)).below hbw8 (hL28.alloc (.cells #[.int .i64 M, .slice a30 n30 c30] 26)).lt
      replace l28 := hL28.two
      have hL30 := (Loc.new w7 rfl #[.int .i64 M, .slice a30 n30 c30] 26).below hbw8 (Loc.new w7 rfl #[.int .i64 M, .slice a30 n30 c30] 26).lt
      have l30 := hL30.two
      replace ho27 := (ho27.alloc (.cells #[.int .i64 M, .slice a30 n30 c30] 26)).below hbw8
      replace ho28 := (ho28.alloc (.cells #[.int .i64 M, .slice a30 n30 c30] 26)).below hbw8
      replace ho30 := (ho30.alloc (.cells #[.int .i64 M, .slice a30 n30 c30] 26)).below hbw8
      replace hB := below_th (below_al hB (.cells #[.int .i64 M, .slice a30 n30 c30] 26)) hbw8
      clear hL30 l30
      go_wp2_with fail
      refine (areEqualBraids_ok M a27 a28 n27 n28 c27 c28 us (redL us) r1 r1 _ ho27.row ho28.row HB2.out HBR.out HR1.out HR2.out).mono ?_
      rintro e w9 ⟨rfl, hbw9⟩
      replace hL27 := hL27.below hbw9 hL27.lt
      replace l27 := hL27.two
      replace hL28 := hL28.below hbw9 hL28.lt
      replace l28 := hL28.two
      replace ho27 := ho27.below hbw9
      replace ho28 := ho28.below hbw9
      replace hB := below_th hB hbw9
      clear hL27 l27 hL28 l28
      clear HB2 HBR HR1 HR2 HRL
      go_wp2_with fail
      refine (DrawParseBraid_ok a n c xs _ (h.below hB) hn).mono ?_
      rintro e w10 ⟨tx, rfl, htz, hbw10⟩
      replace hB := below_th hB hbw10
      rcases prs_data tx with ⟨s3, X3, hb3, h23, hc3, hL3, hs3, hX3, htx⟩ | hnp
      · have HPI : Hid (∀ w, Calls Try.prog 20 #[.string tx] w (RetB w s3 X3 0)) := Lib.hid fun w => by
          have := impl_Prs_ok tx w htz h23 hc3 hL3 (by rw [hs3, ← hX3]; exact hb3)
          rw [hs3, ← hX3] at this; exact this
        have HPS : Hid (∀ w, Calls Try.prog 21 #[.string tx] w (RetB w s3 X3 0)) := Lib.hid fun w => spec_Prs_any tx w htz s3 X3 0 (.inl ⟨h23, hc3, hL3, by rw [hs3, ← hX3]; exact hb3, hs3.symm, hX3, rfl⟩)
        have HB3 : Hid (isBr s3 X3 = true) := Lib.hid hb3
        have HTX := Lib.hid htx
        have hX30 : X3.length ≤ 30 := (isBr_let hb3).2.1
        clear hb3 hc3 hL3 hs3 hX3 htx h23
        go_wp2_with fail
        refine (HPI.out _).mono ?_
        rintro e w11 ⟨a35, n35, c35, rfl, ho35, hbw11⟩
        replace hB := below_th hB hbw11
        have m35 := (Loc.new w11 rfl #[.int .i64 s3, .slice a35 n35 c35] 26).two
        go_wp2_with fail
        refine (HPS.out _).mono ?_
        rintro e w12 ⟨a37, n37, c37, rfl, ho37, hbw12⟩
        clear m35
        have hL35 := (Loc.new w11 rfl #[.int .i64 s3, .slice a35 n35 c35] 26).below hbw12 (Loc.new w11 rfl #[.int .i64 s3, .slice a35 n35 c35] 26).lt
        have l35 := hL35.two
        replace ho35 := (ho35.alloc (.cells #[.int .i64 s3, .slice a35 n35 c35] 26)).below hbw12
        replace hB := below_th (below_al hB (.cells #[.int .i64 s3, .slice a35 n35 c35] 26)) hbw12
        have m35 := (hL35.alloc (.cells #[.int .i64 s3, .slice a37 n37 c37] 26)).two
        have m37 := (Loc.new w12 rfl #[.int .i64 s3, .slice a37 n37 c37] 26).two
        go_wp2_with fail
        refine (braid9_same _ _ _ _ _ _ _ X3 _ (ho35.alloc (.cells #[.int .i64 s3, .slice a37 n37 c37] 26)).row (ho37.alloc (.cells #[.int .i64 s3, .slice a37 n37 c37] 26)).row (by have := ho35.len; omega)).mono ?_
        rintro e w13 ⟨rfl, hbw13⟩
        clear m35 m37
        replace hL35 := (hL35.alloc (.cells #[.int .i64 s3, .slice a37 n37 c37] 26)).below hbw13 (hL35.alloc (.cells #[.int .i64 s3, .slice a37 n37 c37] 26)).lt
        replace l35 := hL35.two
        have hL37 := (Loc.new w12 rfl #[.int .i64 s3, .slice a37 n37 c37] 26).below hbw13 (Loc.new w12 rfl #[.int .i64 s3, .slice a37 n37 c37] 26).lt
        have l37 := hL37.two
        replace ho35 := (ho35.alloc (.cells #[.int .i64 s3, .slice a37 n37 c37] 26)).below hbw13
        replace ho37 := (ho37.alloc (.cells #[.int .i64 s3, .slice a37 n37 c37] 26)).below hbw13
        replace hB := below_th (below_al hB (.cells #[.int .i64 s3, .slice a37 n37 c37] 26)) hbw13
        clear hL37 l37
        go_wp2_with fail
        refine (impl_Btx_ok s3 a35 n35 c35 X3 _ ho35.row HB3.out).mono ?_
        rintro e w14 ⟨rfl, hbw14⟩
        replace hL35 := hL35.below hbw14 hL35.lt
        replace l35 := hL35.two
        replace ho35 := ho35.below hbw14
        replace hB := below_th hB hbw14
        rw [HTX.out]
        go_wp2
        go_ret
        exact ⟨rfl, hB⟩
      · have HPI := Lib.hid fun w => impl_Prs_no tx w htz hnp
        have HPS := Lib.hid fun w => spec_Prs_any tx w htz 0 [] 6 (.inr ⟨hnp, rfl, rfl, rfl⟩)
        clear hnp
        go_wp2_with fail
        refine (HPI.out _).mono ?_
        rintro e w11 ⟨a35, n35, c35, rfl, ho35, hbw11⟩
        replace hB := below_th hB hbw11
        have m35 := (Loc.new w11 rfl #[.int .i64 0, .slice a35 n35 c35] 26).two
        go_wp2_with fail
        refine (HPS.out _).mono ?_
        rintro e w12 ⟨a37, n37, c37, rfl, ho37, hbw12⟩
        clear m35
        have hL35 := (Loc.new w11 rfl #[.int .i64 0, .slice a35 n35 c35] 26).below hbw12 (Loc.new w11 rfl #[.int .i64 0, .slice a35 n35 c35] 26).lt
        have l35 := hL35.two
        replace ho35 := (ho35.alloc (.cells #[.int .i64 0, .slice a35 n35 c35] 26)).below hbw12
        replace hB := below_th (below_al hB (.cells #[.int .i64 0, .slice a35 n35 c35] 26)) hbw12
        have m35 := (hL35.alloc (.cells #[.int .i64 0, .slice a37 n37 c37] 26)).two
        have m37 := (Loc.new w12 rfl #[.int .i64 0, .slice a37 n37 c37] 26).two
        go_wp2_with fail
        refine (braid9_same _ _ _ _ _ _ _ [] _ (ho35.alloc (.cells #[.int .i64 0, .slice a37 n37 c37] 26)).row (ho37.alloc (.cells #[.int .i64 0, .slice a37 n37 c37] 26)).row (by have := ho35.len; simp at this; omega)).mono ?_
        rintro e w13 ⟨rfl, hbw13⟩
        clear m35 m37
        replace hL35 := (hL35.alloc (.cells #[.int .i64 0, .slice a37 n37 c37] 26)).below hbw13 (hL35.alloc (.cells #[.int .i64 0, .slice a37 n37 c37] 26)).lt
        replace l35 := hL35.two
        have hL37 := (Loc.new w12 rfl #[.int .i64 0, .slice a37 n37 c37] 26).below hbw13 (Loc.new w12 rfl #[.int .i64 0, .slice a37 n37 c37] 26).lt
        have l37 := hL37.two
        replace ho35 := (ho35.alloc (.cells #[.int .i64 0, .slice a37 n37 c37] 26)).below hbw13
        replace ho37 := (ho37.alloc (.cells #[.int .i64 0, .slice a37 n37 c37] 26)).below hbw13
        replace hB := below_th (below_al hB (.cells #[.int .i64 0, .slice a37 n37 c37] 26)) hbw13
        go_wp2
        go_ret
        exact ⟨rfl, hB⟩
  · obtain ⟨N, rfl⟩ : ∃ N : Nat, S = N := ⟨S.toNat, by omega⟩
    have hbb := br_app hb1 hb2 h30
    have hN2 : 2 ≤ N := (br_ltr hb1).1
    have hN6 : N ≤ 6 := (br_ltr hb1).2.1
    have HTI := Lib.hid fun (w : World) (h1 : Row w a3 n3 ys) (h2 : Row w a4 n4 zs) => impl_Tim_any N N a3 a4 n3 n4 c3 c4 ys zs w h1 h2 (by omega) (by omega)
    have HTS := Lib.hid fun (w : World) (h1 : Row w a3 n3 ys) (h2 : Row w a4 n4 zs) => spec_Tim_any N N a3 a4 n3 n4 c3 c4 ys zs w h1 h2 (by omega) (by omega) ⟨by omega, by omega⟩ ⟨by omega, by omega⟩
    rw [hF1] at HTI HTS
    have HB1 : Hid (isBr N ys = true) := Lib.hid hb1
    have HB2 : Hid (isBr N zs = true) := Lib.hid hb2
    have HBB : Hid (isBr N (ys ++ zs) = true) := Lib.hid hbb
    have HP1 : Hid (IsP N (brP N ys)) := Lib.hid (brP_isP N ys (br_plc hb1))
    have HP2 : Hid (IsP N (brP N zs)) := Lib.hid (brP_isP N zs (br_plc hb2))
    have HP3 := brP_isP N (ys ++ zs) (br_plc hbb)
    have HBO : Hid (thL (brP N ys) (brP N zs) = brP N (ys ++ zs)) := Lib.hid (brP_both N ys zs (br_plc hb1) (br_plc hb2))
    have HST : Hid (incOk (brP N (ys ++ zs)) = allN N fun i => decide ((brP N (ys ++ zs)).getD i 0 = (i : Int))) := Lib.hid (still_inc HP3)
    have HSG : Hid (sgS (ys ++ zs) = sgS ys + sgS zs) := Lib.hid (sgS_app ys zs)
    have HL30 : Hid ((ys ++ zs).length ≤ 30) := Lib.hid (isBr_let hbb).2.1
    obtain ⟨u1, HU1⟩ : ∃ u, Hid (sgS ys = u) := ⟨_, Lib.hid rfl⟩
    obtain ⟨u2, HU2⟩ : ∃ u, Hid (sgS zs = u) := ⟨_, Lib.hid rfl⟩
    have hu1 : -30 ≤ u1 ∧ u1 ≤ 30 := by
      have := sgS_bd ys ys.length (Nat.le_refl _); rw [List.take_length, HU1.out] at this
      have := (isBr_let hb1).2.1; omega
    have hu2 : -30 ≤ u2 ∧ u2 ≤ 30 := by
      have := sgS_bd zs zs.length (Nat.le_refl _); rw [List.take_length, HU2.out] at this
      have := (isBr_let hb2).2.1; omega
    obtain ⟨hu11, hu12⟩ := hu1
    obtain ⟨hu21, hu22⟩ := hu2
    have p1 : IntKind.i64.wrap (u1 + u2) = u1 + u2 := IntWalk.i64_in _ ⟨by omega, by omega⟩
    have p2 : (u1 + u2 != u1 + u2) = false := by simp
    clear hb1 hb2 hbb h30 hF1 HP3
    have m3 := ((Loc.new w1 rfl #[.int .i64 N, .slice a3 n3 c3] 26).alloc (.cells #[.int .i64 N, .slice a4 n4 c4] 26)).two
    have m4 := (Loc.new (b := w1.heap.size + 1) (w1.alloc (.cells #[.int .i64 N, .slice a3 n3 c3] 26)) (by simp) #[.int .i64 N, .slice a4 n4 c4] 26).two
    go_wp2_with fail
    refine (HTI.out _ ((ho3.alloc (.cells #[.int .i64 N, .slice a3 n3 c3] 26)).alloc (.cells #[.int .i64 N, .slice a4 n4 c4] 26)).row ((ho4.alloc (.cells #[.int .i64 N, .slice a3 n3 c3] 26)).alloc (.cells #[.int .i64 N, .slice a4 n4 c4] 26)).row).mono ?_
    rintro e w2 ⟨a5, n5, c5, rfl, ho5, hbw2⟩
    clear m3 m4
    have hL3 := ((Loc.new w1 rfl #[.int .i64 N, .slice a3 n3 c3] 26).alloc (.cells #[.int .i64 N, .slice a4 n4 c4] 26)).below hbw2 ((Loc.new w1 rfl #[.int .i64 N, .slice a3 n3 c3] 26).alloc (.cells #[.int .i64 N, .slice a4 n4 c4] 26)).lt
    have l3 := hL3.two
    have hL4 := (Loc.new (b := w1.heap.size + 1) (w1.alloc (.cells #[.int .i64 N, .slice a3 n3 c3] 26)) (by simp) #[.int .i64 N, .slice a4 n4 c4] 26).below hbw2 (Loc.new (b := w1.heap.size + 1) (w1.alloc (.cells #[.int .i64 N, .slice a3 n3 c3] 26)) (by simp) #[.int .i64 N, .slice a4 n4 c4] 26).lt
    have l4 := hL4.two
    replace ho3 := ((ho3.alloc (.cells #[.int .i64 N, .slice a3 n3 c3] 26)).alloc (.cells #[.int .i64 N, .slice a4 n4 c4] 26)).below hbw2
    replace ho4 := ((ho4.alloc (.cells #[.int .i64 N, .slice a3 n3 c3] 26)).alloc (.cells #[.int .i64 N, .slice a4 n4 c4] 26)).below hbw2
    replace hB := below_th (below_al (below_al hB (.cells #[.int .i64 N, .slice a3 n3 c3] 26)) (.cells #[.int .i64 N, .slice a4 n4 c4] 26)) hbw2
    have m3 := (hL3.alloc (.cells #[.int .i64 N, .slice a5 n5 c5] 26)).two
    have m4 := (hL4.alloc (.cells #[.int .i64 N, .slice a5 n5 c5] 26)).two
    have m5 := (Loc.new w2 rfl #[.int .i64 N, .slice a5 n5 c5] 26).two
    go_wp2_with fail
    refine (HTS.out _ (ho3.alloc (.cells #[.int .i64 N, .slice a5 n5 c5] 26)).row (ho4.alloc (.cells #[.int .i64 N, .slice a5 n5 c5] 26)).row).mono ?_
    rintro e w3 ⟨a7, n7, c7, rfl, ho7, hbw3⟩
    clear m3 m4 m5
    replace hL3 := (hL3.alloc (.cells #[.int .i64 N, .slice a5 n5 c5] 26)).below hbw3 (hL3.alloc (.cells #[.int .i64 N, .slice a5 n5 c5] 26)).lt
    replace l3 := hL3.two
    replace hL4 := (hL4.alloc (.cells #[.int .i64 N, .slice a5 n5 c5] 26)).below hbw3 (hL4.alloc (.cells #[.int .i64 N, .slice a5 n5 c5] 26)).lt
    replace l4 := hL4.two
    have hL5 := (Loc.new w2 rfl #[.int .i64 N, .slice a5 n5 c5] 26).below hbw3 (Loc.new w2 rfl #[.int .i64 N, .slice a5 n5 c5] 26).lt
    have l5 := hL5.two
    replace ho3 := (ho3.alloc (.cells #[.int .i64 N, .slice a5 n5 c5] 26)).below hbw3
    replace ho4 := (ho4.alloc (.cells #[.int .i64 N, .slice a5 n5 c5] 26)).below hbw3
    replace ho5 := (ho5.alloc (.cells #[.int .i64 N, .slice a5 n5 c5] 26)).below hbw3
    replace hB := below_th (below_al hB (.cells #[.int .i64 N, .slice a5 n5 c5] 26)) hbw3
    have hn5 : n5 ≤ 30 := by have := ho5.len; have := HL30.out; omega
    have m3 := (hL3.alloc (.cells #[.int .i64 N, .slice a7 n7 c7] 26)).two
    have m4 := (hL4.alloc (.cells #[.int .i64 N, .slice a7 n7 c7] 26)).two
    have m5 := (hL5.alloc (.cells #[.int .i64 N, .slice a7 n7 c7] 26)).two
    have m7 := (Loc.new w3 rfl #[.int .i64 N, .slice a7 n7 c7] 26).two
    go_wp2_with fail
    refine (braid9_same _ _ _ _ _ _ _ (ys ++ zs) _ (ho5.alloc (.cells #[.int .i64 N, .slice a7 n7 c7] 26)).row (ho7.alloc (.cells #[.int .i64 N, .slice a7 n7 c7] 26)).row (by omega)).mono ?_
    rintro e w4 ⟨rfl, hbw4⟩
    clear m3 m4 m5 m7
    replace hL3 := (hL3.alloc (.cells #[.int .i64 N, .slice a7 n7 c7] 26)).below hbw4 (hL3.alloc (.cells #[.int .i64 N, .slice a7 n7 c7] 26)).lt
    replace l3 := hL3.two
    replace hL4 := (hL4.alloc (.cells #[.int .i64 N, .slice a7 n7 c7] 26)).below hbw4 (hL4.alloc (.cells #[.int .i64 N, .slice a7 n7 c7] 26)).lt
    replace l4 := hL4.two
    replace hL5 := (hL5.alloc (.cells #[.int .i64 N, .slice a7 n7 c7] 26)).below hbw4 (hL5.alloc (.cells #[.int .i64 N, .slice a7 n7 c7] 26)).lt
    replace l5 := hL5.two
    have hL7 := (Loc.new w3 rfl #[.int .i64 N, .slice a7 n7 c7] 26).below hbw4 (Loc.new w3 rfl #[.int .i64 N, .slice a7 n7 c7] 26).lt
    have l7 := hL7.two
    replace ho3 := (ho3.alloc (.cells #[.int .i64 N, .slice a7 n7 c7] 26)).below hbw4
    replace ho4 := (ho4.alloc (.cells #[.int .i64 N, .slice a7 n7 c7] 26)).below hbw4
    replace ho5 := (ho5.alloc (.cells #[.int .i64 N, .slice a7 n7 c7] 26)).below hbw4
    replace ho7 := (ho7.alloc (.cells #[.int .i64 N, .slice a7 n7 c7] 26)).below hbw4
    replace hB := below_th (below_al hB (.cells #[.int .i64 N, .slice a7 n7 c7] 26)) hbw4
    clear hL7 l7
    go_wp2_with fail
    refine (impl_Bpm_ok N a3 n3 c3 ys _ ho3.row HB1.out).mono ?_
    rintro e w5 ⟨a9, c9, rfl, ho9, hbw5⟩
    replace hL3 := hL3.below hbw5 hL3.lt
    replace l3 := hL3.two
    replace hL4 := hL4.below hbw5 hL4.lt
    replace l4 := hL4.two
    replace hL5 := hL5.below hbw5 hL5.lt
    replace l5 := hL5.two
    replace ho3 := ho3.below hbw5
    replace ho4 := ho4.below hbw5
    replace ho5 := ho5.below hbw5
    replace hB := below_th hB hbw5
    go_wp2_with fail
    refine (impl_Bpm_ok N a4 n4 c4 zs _ ho4.row HB2.out).mono ?_
    rintro e w6 ⟨a11, c11, rfl, ho11, hbw6⟩
    replace hL3 := hL3.below hbw6 hL3.lt
    replace l3 := hL3.two
    replace hL4 := hL4.below hbw6 hL4.lt
    replace l4 := hL4.two
    replace hL5 := hL5.below hbw6 hL5.lt
    replace l5 := hL5.two
    replace ho3 := ho3.below hbw6
    replace ho4 := ho4.below hbw6
    replace ho5 := ho5.below hbw6
    replace ho9 := ho9.below hbw6
    replace hB := below_th hB hbw6
    go_wp2_with fail
    refine (impl_Bpm_ok N a5 n5 c5 (ys ++ zs) _ ho5.row HBB.out).mono ?_
    rintro e w7 ⟨a13, c13, rfl, ho13, hbw7⟩
    replace hL3 := hL3.below hbw7 hL3.lt
    replace l3 := hL3.two
    replace hL4 := hL4.below hbw7 hL4.lt
    replace l4 := hL4.two
    replace hL5 := hL5.below hbw7 hL5.lt
    replace l5 := hL5.two
    replace ho3 := ho3.below hbw7
    replace ho4 := ho4.below hbw7
    replace ho5 := ho5.below hbw7
    replace ho9 := ho9.below hbw7
    replace ho11 := ho11.below hbw7
    replace hB := below_th hB hbw7
    go_wp2_with fail
    refine (impl_Thp_ok a9 a11 N c9 c11 (brP N ys) (brP N zs) _ ho9.row ho11.row HP1.out HP2.out (by omega) (by omega)).mono ?_
    rintro e w8 ⟨a15, c15, rfl, ho15, hbw8⟩
    replace hL3 := hL3.below hbw8 hL3.lt
    replace l3 := hL3.two
    replace hL4 := hL4.below hbw8 hL4.lt
    replace l4 := hL4.two
    replace hL5 := hL5.below hbw8 hL5.lt
    replace l5 := hL5.two
    replace ho3 := ho3.below hbw8
    replace ho4 := ho4.below hbw8
    replace ho5 := ho5.below hbw8
    replace ho9 := ho9.below hbw8
    replace ho11 := ho11.below hbw8
    replace ho13 := ho13.below hbw8
    replace hB := below_th hB hbw8
    rw [HBO.out] at ho15
    go_wp2_with fail
    refine (impl_Sum_ok N a3 n3 c3 ys _ ho3.row (by omega) HB1.out).mono ?_
    rintro e w9 ⟨rfl, hbw9⟩
    replace hL3 := hL3.below hbw9 hL3.lt
    replace l3 := hL3.two
    replace hL4 := hL4.below hbw9 hL4.lt
    replace l4 := hL4.two
    replace hL5 := hL5.below hbw9 hL5.lt
    replace l5 := hL5.two
    replace ho3 := ho3.below hbw9
    replace ho4 := ho4.below hbw9
    replace ho5 := ho5.below hbw9
    replace ho9 := ho9.below hbw9
    replace ho11 := ho11.below hbw9
    replace ho13 := ho13.below hbw9
    replace ho15 := ho15.below hbw9
    replace hB := below_th hB hbw9
    rw [HU1.out]
    go_wp2_with fail
    refine (impl_Sum_ok N a4 n4 c4 zs _ ho4.row (by omega) HB2.out).mono ?_
    rintro e w10 ⟨rfl, hbw10⟩
    replace hL3 := hL3.below hbw10 hL3.lt
    replace l3 := hL3.two
    replace hL4 := hL4.below hbw10 hL4.lt
    replace l4 := hL4.two
    replace hL5 := hL5.below hbw10 hL5.lt
    replace l5 := hL5.two
    replace ho3 := ho3.below hbw10
    replace ho4 := ho4.below hbw10
    replace ho5 := ho5.below hbw10
    replace ho9 := ho9.below hbw10
    replace ho11 := ho11.below hbw10
    replace ho13 := ho13.below hbw10
    replace ho15 := ho15.below hbw10
    replace hB := below_th hB hbw10
    rw [HU2.out]
    go_wp2_with fail
    refine (impl_Sum_ok N a5 n5 c5 (ys ++ zs) _ ho5.row (by omega) HBB.out).mono ?_
    rintro e w11 ⟨rfl, hbw11⟩
    replace hL3 := hL3.below hbw11 hL3.lt
    replace l3 := hL3.two
    replace hL4 := hL4.below hbw11 hL4.lt
    replace l4 := hL4.two
    replace hL5 := hL5.below hbw11 hL5.lt
    replace l5 := hL5.two
    replace ho3 := ho3.below hbw11
    replace ho4 := ho4.below hbw11
    replace ho5 := ho5.below hbw11
    replace ho9 := ho9.below hbw11
    replace ho11 := ho11.below hbw11
    replace ho13 := ho13.below hbw11
    replace ho15 := ho15.below hbw11
    replace hB := below_th hB hbw11
    rw [HSG.out, HU1.out, HU2.out]
    go_wp2_with fail
    refine (impl_Pur_ok N a5 n5 c5 (ys ++ zs) _ ho5.row HBB.out).mono ?_
    rintro e w12 ⟨rfl, hbw12⟩
    replace hL3 := hL3.below hbw12 hL3.lt
    replace l3 := hL3.two
    replace hL4 := hL4.below hbw12 hL4.lt
    replace l4 := hL4.two
    replace hL5 := hL5.below hbw12 hL5.lt
    replace l5 := hL5.two
    replace ho3 := ho3.below hbw12
    replace ho4 := ho4.below hbw12
    replace ho5 := ho5.below hbw12
    replace ho9 := ho9.below hbw12
    replace ho11 := ho11.below hbw12
    replace ho13 := ho13.below hbw12
    replace ho15 := ho15.below hbw12
    replace hB := below_th hB hbw12
    rw [HST.out]
    obtain ⟨zz, HZZ⟩ : ∃ z, Hid (brP N (ys ++ zs) = z) := ⟨_, Lib.hid rfl⟩
    rw [HZZ.out] at ho15 ho13
    rw [HZZ.out]
    obtain ⟨F, HF⟩ : ∃ F : Nat → Bool, Hid ((fun i => decide (zz.getD i 0 = (i : Int))) = F) := ⟨_, Lib.hid rfl⟩
    rw [HF.out]
    obtain ⟨BZ, HBZ⟩ : ∃ B, Hid (allN N F = B) := ⟨_, Lib.hid rfl⟩
    rw [HBZ.out]
    go_wp2_with fail
    refine (likeInts_same _ _ _ _ _ _ zz _ ho15.row ho13.row (by omega)).mono ?_
    rintro e w13 ⟨rfl, hbw13⟩
    replace hL3 := hL3.below hbw13 hL3.lt
    replace l3 := hL3.two
    replace hL4 := hL4.below hbw13 hL4.lt
    replace l4 := hL4.two
    replace hL5 := hL5.below hbw13 hL5.lt
    replace l5 := hL5.two
    replace ho3 := ho3.below hbw13
    replace ho4 := ho4.below hbw13
    replace ho5 := ho5.below hbw13
    replace ho9 := ho9.below hbw13
    replace ho11 := ho11.below hbw13
    replace ho13 := ho13.below hbw13
    replace ho15 := ho15.below hbw13
    replace hB := below_th hB hbw13
    clear hL3 l3 hL4 l4 hL5 l5
    have p3 : (BZ != BZ) = false := by simp
    clear HTI HTS HB1 HB2 HBB HP1 HP2 HBO HST HSG HL30 HU1 HU2 ho9 ho11 ho15
    go_wp2
    go_loop [25, 26] (fun st x => ∃ i : Nat, i ≤ N ∧ x = .int .i64 i ∧ st = .bool (allN i F)) (fun _ x => N - (intOf x).toNat)
    case atStart => exact ⟨0, Nat.zero_le _, rfl, rfl⟩
    case round =>
      obtain ⟨i, hi, rfl, rfl⟩ := hrel
      by_cases hlt : i < N
      · obtain ⟨b, off, rfl, g1⟩ := ho13.row.at i hlt
        obtain ⟨V, HV⟩ : ∃ V, Hid (zz.getD i 0 = V) := ⟨_, Lib.hid rfl⟩
        rw [HV.out] at g1
        have i1 : (0 : Int) ≤ (i : Int) := by omega
        have i2 : (i : Int) < (N : Int) := by omega
        have HS : Hid (allN (i + 1) F = (allN i F && decide (V = (i : Int)))) := Lib.hid (by
          unfold allN; rw [List.range_succ, List.all_append, ← HF.out]; simp [← HV.out])
        cases hq : allN i F with
        | false =>
          rw [hq] at HS
          have HQ := Lib.hid hq; clear hq
          go_wp2
          go_round
          case rel => exact ⟨i + 1, by omega, by go_num, by rw [HS.out]; rfl⟩
          case measure => simp [intOf]; omega
        | true =>
          rw [hq] at HS
          have HQ := Lib.hid hq; clear hq
          by_cases hv : V = (i : Int)
          · subst hv
            go_wp2
            go_round
            case rel => exact ⟨i + 1, by omega, by go_num, by rw [HS.out]; simp⟩
            case measure => simp [intOf]; omega
          · have hv2 : (V == (i : Int)) = false := by simpa using hv
            have HN := Lib.hid hv
            clear hv
            go_wp2
            go_round
            case rel => exact ⟨i + 1, by omega, by go_num, by rw [HS.out]; simp [HN.out]⟩
            case measure => simp [intOf]; omega
      · obtain rfl : N = i := by omega
        rw [HBZ.out]
        clear ho13
        go_wp2_with fail
        refine (DrawReduceBraid_ok a n c xs _ (h.below hB) hn).mono ?_
        rintro e w14 ⟨S2, a27, n27, c27, us, rfl, hS21, hS22, hn27, hsm2, ho27, hbw14⟩
        replace hB := below_th hB hbw14
        cases hb2 : isBr S2 us with
        | false =>
          have HB2 := Lib.hid hb2; clear hb2
          have m27 := (Loc.new w14 rfl #[.int .i64 S2, .slice a27 n27 c27] 26).two
          go_wp2_with fail
          refine (impl_Red_no S2 a27 n27 c27 us _ (ho27.alloc (.cells #[.int .i64 S2, .slice a27 n27 c27] 26)).row (by omega) HB2.out).mono ?_
          rintro e w15 ⟨a28, n28, c28, rfl, ho28, hbw15⟩
          clear m27
          have hL27 := (Loc.new w14 rfl #[.int .i64 S2, .slice a27 n27 c27] 26).below hbw15 (Loc.new w14 rfl #[.int .i64 S2, .slice a27 n27 c27] 26).lt
          have l27 := hL27.two
          replace ho27 := (ho27.alloc (.cells #[.int .i64 S2, .slice a27 n27 c27] 26)).below hbw15
          replace hB := below_th (below_al hB (.cells #[.int .i64 S2, .slice a27 n27 c27] 26)) hbw15
          have m27 := (hL27.alloc (.cells #[.int .i64 0, .slice a28 n28 c28] 26)).two
          have m28 := (Loc.new w15 rfl #[.int .i64 0, .slice a28 n28 c28] 26).two
          go_wp2_with fail
          refine (spec_Red_no S2 a27 n27 c27 us _ (ho27.alloc (.cells #[.int .i64 0, .slice a28 n28 c28] 26)).row (by omega) ⟨by omega, by omega⟩ HB2.out).mono ?_
          rintro e w16 ⟨a30, n30, c30, rfl, ho30, hbw16⟩
          clear m27 m28
          replace hL27 := (hL27.alloc (.cells #[.int .i64 0, .slice a28 n28 c28] 26)).below hbw16 (hL27.alloc (.cells #[.int .i64 0, .slice a28 n28 c28] 26)).lt
          replace l27 := hL27.two
          have hL28 := (Loc.new w15 rfl #[.int .i64 0, .slice a28 n28 c28] 26).below hbw16 (Loc.new w15 rfl #[.int .i64 0, .slice a28 n28 c28] 26).lt
          have l28 := hL28.two
          replace ho27 := (ho27.alloc (.cells #[.int .i64 0, .slice a28 n28 c28] 26)).below hbw16
          replace ho28 := (ho28.alloc (.cells #[.int .i64 0, .slice a28 n28 c28] 26)).below hbw16
          replace hB := below_th (below_al hB (.cells #[.int .i64 0, .slice a28 n28 c28] 26)) hbw16
          have m27 := (hL27.alloc (.cells #[.int .i64 0, .slice a30 n30 c30] 26)).two
          have m28 := (hL28.alloc (.cells #[.int .i64 0, .slice a30 n30 c30] 26)).two
          have m30 := (Loc.new w16 rfl #[.int .i64 0, .slice a30 n30 c30] 26).two
          go_wp2_with fail
          refine (braid9_same _ _ _ _ _ _ _ [] _ (ho28.alloc (.cells #[.int .i64 0, .slice a30 n30 c30] 26)).row (ho30.alloc (.cells #[.int .i64 0, .slice a30 n30 c30] 26)).row (by have := ho28.len; simp at this; omega)).mono ?_
          rintro e w17 ⟨rfl, hbw17⟩
          clear m27 m28 m30
          replace hL27 := (hL27.alloc (.cells #[.int .i64 0, .slice a30 n30 c30] 26)).below hbw17 (hL27.alloc (.cells #[.int .i64 0, .slice a30 n30 c30] 26)).lt
          replace l27 := hL27.two
          replace hL28 := (hL28.alloc (.cells #[.int .i64 0, .slice a30 n30 c30] 26)).below hbw17 (hL28.alloc (.cells #[.int .i64 0, .slice a30 n30 c30] 26)).lt
          replace l28 := hL28.two
          have hL30 := (Loc.new w16 rfl #[.int .i64 0, .slice a30 n30 c30] 26).below hbw17 (Loc.new w16 rfl #[.int .i64 0, .slice a30 n30 c30] 26).lt
          have l30 := hL30.two
          replace ho27 := (ho27.alloc (.cells #[.int .i64 0, .slice a30 n30 c30] 26)).below hbw17
          replace ho28 := (ho28.alloc (.cells #[.int .i64 0, .slice a30 n30 c30] 26)).below hbw17
          replace ho30 := (ho30.alloc (.cells #[.int .i64 0, .slice a30 n30 c30] 26)).below hbw17
          replace hB := below_th (below_al hB (.cells #[.int .i64 0, .slice a30 n30 c30] 26)) hbw17
          clear hL27 l27 hL28 l28 hL30 l30
          go_wp2_with fail
          refine (DrawParseBraid_ok a n c xs _ (h.below hB) hn).mono ?_
          rintro e w18 ⟨tx, rfl, htz, hbw18⟩
          replace hB := below_th hB hbw18
          rcases prs_data tx with ⟨s3, X3, hb3, h23, hc3, hL3, hs3, hX3, htx⟩ | hnp
          · have HPI : Hid (∀ w, Calls Try.prog 20 #[.string tx] w (RetB w s3 X3 0)) := Lib.hid fun w => by
              have := impl_Prs_ok tx w htz h23 hc3 hL3 (by rw [hs3, ← hX3]; exact hb3)
              rw [hs3, ← hX3] at this; exact this
            have HPS : Hid (∀ w, Calls Try.prog 21 #[.string tx] w (RetB w s3 X3 0)) := Lib.hid fun w => spec_Prs_any tx w htz s3 X3 0 (.inl ⟨h23, hc3, hL3, by rw [hs3, ← hX3]; exact hb3, hs3.symm, hX3, rfl⟩)
            have HB3 : Hid (isBr s3 X3 = true) := Lib.hid hb3
            have HTX := Lib.hid htx
            have hX30 : X3.length ≤ 30 := (isBr_let hb3).2.1
            clear hb3 hc3 hL3 hs3 hX3 htx h23
            go_wp2_with fail
            refine (HPI.out _).mono ?_
            rintro e w19 ⟨a35, n35, c35, rfl, ho35, hbw19⟩
            replace hB := below_th hB hbw19
            have m35 := (Loc.new w19 rfl #[.int .i64 s3, .slice a35 n35 c35] 26).two
            go_wp2_with fail
            refine (HPS.out _).mono ?_
            rintro e w20 ⟨a37, n37, c37, rfl, ho37, hbw20⟩
            clear m35
            have hL35 := (Loc.new w19 rfl #[.int .i64 s3, .slice a35 n35 c35] 26).below hbw20 (Loc.new w19 rfl #[.int .i64 s3, .slice a35 n35 c35] 26).lt
            have l35 := hL35.two
            replace ho35 := (ho35.alloc (.cells #[.int .i64 s3, .slice a35 n35 c35] 26)).below hbw20
            replace hB := below_th (below_al hB (.cells #[.int .i64 s3, .slice a35 n35 c35] 26)) hbw20
            have m35 := (hL35.alloc (.cells #[.int .i64 s3, .slice a37 n37 c37] 26)).two
            have m37 := (Loc.new w20 rfl #[.int .i64 s3, .slice a37 n37 c37] 26).two
            go_wp2_with fail
            refine (braid9_same _ _ _ _ _ _ _ X3 _ (ho35.alloc (.cells #[.int .i64 s3, .slice a37 n37 c37] 26)).row (ho37.alloc (.cells #[.int .i64 s3, .slice a37 n37 c37] 26)).row (by have := ho35.len; omega)).mono ?_
            rintro e w21 ⟨rfl, hbw21⟩
            clear m35 m37
            replace hL35 := (hL35.alloc (.cells #[.int .i64 s3, .slice a37 n37 c37] 26)).below hbw21 (hL35.alloc (.cells #[.int .i64 s3, .slice a37 n37 c37] 26)).lt
            replace l35 := hL35.two
            have hL37 := (Loc.new w20 rfl #[.int .i64 s3, .slice a37 n37 c37] 26).below hbw21 (Loc.new w20 rfl #[.int .i64 s3, .slice a37 n37 c37] 26).lt
            have l37 := hL37.two
            replace ho35 := (ho35.alloc (.cells #[.int .i64 s3, .slice a37 n37 c37] 26)).below hbw21
            replace ho37 := (ho37.alloc (.cells #[.int .i64 s3, .slice a37 n37 c37] 26)).below hbw21
            replace hB := below_th (below_al hB (.cells #[.int .i64 s3, .slice a37 n37 c37] 26)) hbw21
            clear hL37 l37
            go_wp2_with fail
            refine (impl_Btx_ok s3 a35 n35 c35 X3 _ ho35.row HB3.out).mono ?_
            rintro e w22 ⟨rfl, hbw22⟩
            replace hL35 := hL35.below hbw22 hL35.lt
            replace l35 := hL35.two
            replace ho35 := ho35.below hbw22
            replace hB := below_th hB hbw22
            rw [HTX.out]
            go_wp2
            go_ret
            exact ⟨rfl, hB⟩
          · have HPI := Lib.hid fun w => impl_Prs_no tx w htz hnp
            have HPS := Lib.hid fun w => spec_Prs_any tx w htz 0 [] 6 (.inr ⟨hnp, rfl, rfl, rfl⟩)
            clear hnp
            go_wp2_with fail
            refine (HPI.out _).mono ?_
            rintro e w19 ⟨a35, n35, c35, rfl, ho35, hbw19⟩
            replace hB := below_th hB hbw19
            have m35 := (Loc.new w19 rfl #[.int .i64 0, .slice a35 n35 c35] 26).two
            go_wp2_with fail
            refine (HPS.out _).mono ?_
            rintro e w20 ⟨a37, n37, c37, rfl, ho37, hbw20⟩
            clear m35
            have hL35 := (Loc.new w19 rfl #[.int .i64 0, .slice a35 n35 c35] 26).below hbw20 (Loc.new w19 rfl #[.int .i64 0, .slice a35 n35 c35] 26).lt
            have l35 := hL35.two
            replace ho35 := (ho35.alloc (.cells #[.int .i64 0, .slice a35 n35 c35] 26)).below hbw20
            replace hB := below_th (below_al hB (.cells #[.int .i64 0, .slice a35 n35 c35] 26)) hbw20
            have m35 := (hL35.alloc (.cells #[.int .i64 0, .slice a37 n37 c37] 26)).two
            have m37 := (Loc.new w20 rfl #[.int .i64 0, .slice a37 n37 c37] 26).two
            go_wp2_with fail
            refine (braid9_same _ _ _ _ _ _ _ [] _ (ho35.alloc (.cells #[.int .i64 0, .slice a37 n37 c37] 26)).row (ho37.alloc (.cells #[.int .i64 0, .slice a37 n37 c37] 26)).row (by have := ho35.len; simp at this; omega)).mono ?_
            rintro e w21 ⟨rfl, hbw21⟩
            clear m35 m37
            replace hL35 := (hL35.alloc (.cells #[.int .i64 0, .slice a37 n37 c37] 26)).below hbw21 (hL35.alloc (.cells #[.int .i64 0, .slice a37 n37 c37] 26)).lt
            replace l35 := hL35.two
            have hL37 := (Loc.new w20 rfl #[.int .i64 0, .slice a37 n37 c37] 26).below hbw21 (Loc.new w20 rfl #[.int .i64 0, .slice a37 n37 c37] 26).lt
            have l37 := hL37.two
            replace ho35 := (ho35.alloc (.cells #[.int .i64 0, .slice a37 n37 c37] 26)).below hbw21
            replace ho37 := (ho37.alloc (.cells #[.int .i64 0, .slice a37 n37 c37] 26)).below hbw21
            replace hB := below_th (below_al hB (.cells #[.int .i64 0, .slice a37 n37 c37] 26)) hbw21
            go_wp2
            go_ret
            exact ⟨rfl, hB⟩
        | true =>
          obtain ⟨M, rfl⟩ : ∃ M : Nat, S2 = M := ⟨S2.toNat, by omega⟩
          have hM2 : 2 ≤ M := (br_ltr hb2).1
          have hrb := red_br hb2
          obtain ⟨r1, hr1⟩ := br_nfo hb2
          obtain ⟨r2, hr2⟩ := br_nfo hrb.1
          obtain rfl : r1 = r2 := nfo_sim hM2 (br_fx hb2) (br_fx hrb.1) hrb.2 hr1 hr2
          have HB2 : Hid (isBr M us = true) := Lib.hid hb2
          have HBR := Lib.hid hrb.1
          have HR1 := Lib.hid hr1; have HR2 := Lib.hid hr2
          have HRL : Hid ((redL us).length ≤ 30) := Lib.hid (isBr_let hrb.1).2.1
          have s8 : decide (r1 = r1) = true := by simp
          clear hb2 hrb hr1 hr2
          have m27 := (Loc.new w14 rfl #[.int .i64 M, .slice a27 n27 c27] 26).two
          go_wp2_with fail
          refine (impl_Red_ok M a27 n27 c27 us _ (ho27.alloc (.cells #[.int .i64 M, .slice a27 n27 c27] 26)).row (by omega) HB2.out).mono ?_
          rintro e w15 ⟨a28, n28, c28, rfl, ho28, hbw15⟩
          clear m27
          have hL27 := (Loc.new w14 rfl #[.int .i64 M, .slice a27 n27 c27] 26).below hbw15 (Loc.new w14 rfl #[.int .i64 M, .slice a27 n27 c27] 26).lt
          have l27 := hL27.two
          replace ho27 := (ho27.alloc (.cells #[.int .i64 M, .slice a27 n27 c27] 26)).below hbw15
          replace hB := below_th (below_al hB (.cells #[.int .i64 M, .slice a27 n27 c27] 26)) hbw15
          have m27 := (hL27.alloc (.cells #[.int .i64 M, .slice a28 n28 c28] 26)).two
          have m28 := (Loc.new w15 rfl #[.int .i64 M, .slice a28 n28 c28] 26).two
          go_wp2_with fail
          refine (spec_Red_ok M a27 n27 c27 us _ (ho27.alloc (.cells #[.int .i64 M, .slice a28 n28 c28] 26)).row (by omega) HB2.out).mono ?_
          rintro e w16 ⟨a30, n30, c30, rfl, ho30, hbw16⟩
          clear m27 m28
          replace hL27 := (hL27.alloc (.cells #[.int .i64 M, .slice a28 n28 c28] 26)).below hbw16 (hL27.alloc (.cells #[.int .i64 M, .slice a28 n28 c28] 26)).lt
          replace l27 := hL27.two
          have hL28 := (Loc.new w15 rfl #[.int .i64 M, .slice a28 n28 c28] 26).below hbw16 (Loc.new w15 rfl #[.int .i64 M, .slice a28 n28 c28] 26).lt
          have l28 := hL28.two
          replace ho27 := (ho27.alloc (.cells #[.int .i64 M, .slice a28 n28 c28] 26)).below hbw16
          replace ho28 := (ho28.alloc (.cells #[.int .i64 M, .slice a28 n28 c28] 26)).below hbw16
          replace hB := below_th (below_al hB (.cells #[.int .i64 M, .slice a28 n28 c28] 26)) hbw16
          have m27 := (hL27.alloc (.cells #[.int .i64 M, .slice a30 n30 c30] 26)).two
          have m28 := (hL28.alloc (.cells #[.int .i64 M, .slice a30 n30 c30] 26)).two
          have m30 := (Loc.new w16 rfl #[.int .i64 M, .slice a30 n30 c30] 26).two
          go_wp2_with fail
          refine (braid9_same _ _ _ _ _ _ _ (redL us) _ (ho28.alloc (.cells #[.int .i64 M, .slice a30 n30 c30] 26)).row (ho30.alloc (.cells #[.int .i64 M, .slice a30 n30 c30] 26)).row (by have := ho28.len; have := HRL.out; omega)).mono ?_
          rintro e w17 ⟨rfl, hbw17⟩
          clear m27 m28 m30
          replace hL27 := (hL27.alloc (.cells #[.int .i64 M, .slice a30 n30 c30] 26)).below hbw17 (hL27.alloc (.cells #[.int .i64 M, .slice a30 n30 c30] 26)).lt
          replace l27 := hL27.two
          replace hL28 := (hL28.alloc (.cells #[.int .i64 M, .slice a30 n30 c30] 26)).below hbw17 (hL28.alloc (.cells #[.int .i64 M, .slice a30 n30 c30] 26)).lt
          replace l28 := hL28.two
          have hL30 := (Loc.new w16 rfl #[.int .i64 M, .slice a30 n30 c30] 26).below hbw17 (Loc.new w16 rfl #[.int .i64 M, .slice a30 n30 c30] 26).lt
          have l30 := hL30.two
          replace ho27 := (ho27.alloc (.cells #[.int .i64 M, .slice a30 n30 c30] 26)).below hbw17
          replace ho28 := (ho28.alloc (.cells #[.int .i64 M, .slice a30 n30 c30] 26)).below hbw17
          replace ho30 := (ho30.alloc (.cells #[.int .i64 M, .slice a30 n30 c30] 26)).below hbw17
          replace hB := below_th (below_al hB (.cells #[.int .i64 M, .slice a30 n30 c30] 26)) hbw17
          clear hL30 l30
          go_wp2_with fail
          refine (areEqualBraids_ok M a27 a28 n27 n28 c27 c28 us (redL us) r1 r1 _ ho27.row ho28.row HB2.out HBR.out HR1.out HR2.out).mono ?_
          rintro e w18 ⟨rfl, hbw18⟩
          replace hL27 := hL27.below hbw18 hL27.lt
          replace l27 := hL27.two
          replace hL28 := hL28.below hbw18 hL28.lt
          replace l28 := hL28.two
          replace ho27 := ho27.below hbw18
          replace ho28 := ho28.below hbw18
          replace hB := below_th hB hbw18
          clear hL27 l27 hL28 l28
          clear HB2 HBR HR1 HR2 HRL
          go_wp2_with fail
          refine (DrawParseBraid_ok a n c xs _ (h.below hB) hn).mono ?_
          rintro e w19 ⟨tx, rfl, htz, hbw19⟩
          replace hB := below_th hB hbw19
          rcases prs_data tx with ⟨s3, X3, hb3, h23, hc3, hL3, hs3, hX3, htx⟩ | hnp
          · have HPI : Hid (∀ w, Calls Try.prog 20 #[.string tx] w (RetB w s3 X3 0)) := Lib.hid fun w => by
              have := impl_Prs_ok tx w htz h23 hc3 hL3 (by rw [hs3, ← hX3]; exact hb3)
              rw [hs3, ← hX3] at this; exact this
            have HPS : Hid (∀ w, Calls Try.prog 21 #[.string tx] w (RetB w s3 X3 0)) := Lib.hid fun w => spec_Prs_any tx w htz s3 X3 0 (.inl ⟨h23, hc3, hL3, by rw [hs3, ← hX3]; exact hb3, hs3.symm, hX3, rfl⟩)
            have HB3 : Hid (isBr s3 X3 = true) := Lib.hid hb3
            have HTX := Lib.hid htx
            have hX30 : X3.length ≤ 30 := (isBr_let hb3).2.1
            clear hb3 hc3 hL3 hs3 hX3 htx h23
            go_wp2_with fail
            refine (HPI.out _).mono ?_
            rintro e w20 ⟨a35, n35, c35, rfl, ho35, hbw20⟩
            replace hB := below_th hB hbw20
            have m35 := (Loc.new w20 rfl #[.int .i64 s3, .slice a35 n35 c35] 26).two
            go_wp2_with fail
            refine (HPS.out _).mono ?_
            rintro e w21 ⟨a37, n37, c37, rfl, ho37, hbw21⟩
            clear m35
            have hL35 := (Loc.new w20 rfl #[.int .i64 s3, .slice a35 n35 c35] 26).below hbw21 (Loc.new w20 rfl #[.int .i64 s3, .slice a35 n35 c35] 26).lt
            have l35 := hL35.two
            replace ho35 := (ho35.alloc (.cells #[.int .i64 s3, .slice a35 n35 c35] 26)).below hbw21
            replace hB := below_th (below_al hB (.cells #[.int .i64 s3, .slice a35 n35 c35] 26)) hbw21
            have m35 := (hL35.alloc (.cells #[.int .i64 s3, .slice a37 n37 c37] 26)).two
            have m37 := (Loc.new w21 rfl #[.int .i64 s3, .slice a37 n37 c37] 26).two
            go_wp2_with fail
            refine (braid9_same _ _ _ _ _ _ _ X3 _ (ho35.alloc (.cells #[.int .i64 s3, .slice a37 n37 c37] 26)).row (ho37.alloc (.cells #[.int .i64 s3, .slice a37 n37 c37] 26)).row (by have := ho35.len; omega)).mono ?_
            rintro e w22 ⟨rfl, hbw22⟩
            clear m35 m37
            replace hL35 := (hL35.alloc (.cells #[.int .i64 s3, .slice a37 n37 c37] 26)).below hbw22 (hL35.alloc (.cells #[.int .i64 s3, .slice a37 n37 c37] 26)).lt
            replace l35 := hL35.two
            have hL37 := (Loc.new w21 rfl #[.int .i64 s3, .slice a37 n37 c37] 26).below hbw22 (Loc.new w21 rfl #[.int .i64 s3, .slice a37 n37 c37] 26).lt
            have l37 := hL37.two
            replace ho35 := (ho35.alloc (.cells #[.int .i64 s3, .slice a37 n37 c37] 26)).below hbw22
            replace ho37 := (ho37.alloc (.cells #[.int .i64 s3, .slice a37 n37 c37] 26)).below hbw22
            replace hB := below_th (below_al hB (.cells #[.int .i64 s3, .slice a37 n37 c37] 26)) hbw22
            clear hL37 l37
            go_wp2_with fail
            refine (impl_Btx_ok s3 a35 n35 c35 X3 _ ho35.row HB3.out).mono ?_
            rintro e w23 ⟨rfl, hbw23⟩
            replace hL35 := hL35.below hbw23 hL35.lt
            replace l35 := hL35.two
            replace ho35 := ho35.below hbw23
            replace hB := below_th hB hbw23
            rw [HTX.out]
            go_wp2
            go_ret
            exact ⟨rfl, hB⟩
          · have HPI := Lib.hid fun w => impl_Prs_no tx w htz hnp
            have HPS := Lib.hid fun w => spec_Prs_any tx w htz 0 [] 6 (.inr ⟨hnp, rfl, rfl, rfl⟩)
            clear hnp
            go_wp2_with fail
            refine (HPI.out _).mono ?_
            rintro e w20 ⟨a35, n35, c35, rfl, ho35, hbw20⟩
            replace hB := below_th hB hbw20
            have m35 := (Loc.new w20 rfl #[.int .i64 0, .slice a35 n35 c35] 26).two
            go_wp2_with fail
            refine (HPS.out _).mono ?_
            rintro e w21 ⟨a37, n37, c37, rfl, ho37, hbw21⟩
            clear m35
            have hL35 := (Loc.new w20 rfl #[.int .i64 0, .slice a35 n35 c35] 26).below hbw21 (Loc.new w20 rfl #[.int .i64 0, .slice a35 n35 c35] 26).lt
            have l35 := hL35.two
            replace ho35 := (ho35.alloc (.cells #[.int .i64 0, .slice a35 n35 c35] 26)).below hbw21
            replace hB := below_th (below_al hB (.cells #[.int .i64 0, .slice a35 n35 c35] 26)) hbw21
            have m35 := (hL35.alloc (.cells #[.int .i64 0, .slice a37 n37 c37] 26)).two
            have m37 := (Loc.new w21 rfl #[.int .i64 0, .slice a37 n37 c37] 26).two
            go_wp2_with fail
            refine (braid9_same _ _ _ _ _ _ _ [] _ (ho35.alloc (.cells #[.int .i64 0, .slice a37 n37 c37] 26)).row (ho37.alloc (.cells #[.int .i64 0, .slice a37 n37 c37] 26)).row (by have := ho35.len; simp at this; omega)).mono ?_
            rintro e w22 ⟨rfl, hbw22⟩
            clear m35 m37
            replace hL35 := (hL35.alloc (.cells #[.int .i64 0, .slice a37 n37 c37] 26)).below hbw22 (hL35.alloc (.cells #[.int .i64 0, .slice a37 n37 c37] 26)).lt
            replace l35 := hL35.two
            have hL37 := (Loc.new w21 rfl #[.int .i64 0, .slice a37 n37 c37] 26).below hbw22 (Loc.new w21 rfl #[.int .i64 0, .slice a37 n37 c37] 26).lt
            have l37 := hL37.two
            replace ho35 := (ho35.alloc (.cells #[.int .i64 0, .slice a37 n37 c37] 26)).below hbw22
            replace ho37 := (ho37.alloc (.cells #[.int .i64 0, .slice a37 n37 c37] 26)).below hbw22
            replace hB := below_th (below_al hB (.cells #[.int .i64 0, .slice a37 n37 c37] 26)) hbw22
            go_wp2
            go_ret
            exact ⟨rfl, hB⟩
end Go.Proofs.Ytgnaeeifnhgobaa
